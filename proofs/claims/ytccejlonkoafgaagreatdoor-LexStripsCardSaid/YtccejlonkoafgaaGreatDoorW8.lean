/- A part of the proof: the calculus over pure values, contracts of functions, and plain lemmas. -/
import Derived.Test.YtccejlonkoafgaaGreatDoorW7
section
set_option linter.unnecessarySimpa false
set_option linter.unusedVariables false
set_option linter.unusedSimpArgs false
namespace Go.Plane
open Go Go.Proofs
/-! ### Lines of texts -/
theorem ends_of {α : Type} (d : α) : ∀ {l : List α}, l ≠ [] → l = l.dropLast ++ [l.getLastD d]
  | [], h => absurd rfl h
  | [x], _ => rfl
  | x :: y :: l, _ => by
    have ih := ends_of d (l := y :: l) (by simp)
    simp only [List.dropLast_cons_of_ne_nil (List.cons_ne_nil y l), List.cons_append]
    rw [show (x :: y :: l).getLastD d = (y :: l).getLastD d by simp [List.getLastD]]
    rw [← ih]
theorem splitL_cons_ne {b c : UInt8} (h : b ≠ c) (s : List UInt8) : ∃ x r, splitL c s = x :: r ∧ splitL c (b :: s) = (b :: x) :: r := by
  cases he : splitL c s with
  | nil => exact absurd he (splitL_ne c s)
  | cons x r => exact ⟨x, r, rfl, by simp [splitL, h, he]⟩
theorem splitL_cons_eq (c : UInt8) (s : List UInt8) : splitL c (c :: s) = [] :: splitL c s := by simp [splitL]
theorem splitL_single (c : UInt8) : ∀ (u x : List UInt8), splitL c u = [x] → u = x
  | [], x, h => by simpa [splitL] using h
  | b :: u, x, h => by
    by_cases hb : b = c
    · subst hb
      rw [splitL_cons_eq] at h
      exact absurd (List.cons.inj h).2 (splitL_ne b u)
    · obtain ⟨y, r, h1, h2⟩ := splitL_cons_ne hb u
      rw [h2] at h
      obtain ⟨rfl, rfl⟩ := List.cons.inj h
      rw [splitL_single c u y h1]
def lastLn (s : List UInt8) : List UInt8 := (splitL 10 s).getLastD []
def headLns (s : List UInt8) : List (List UInt8) := (splitL 10 s).dropLast
theorem splitL_ends (s : List UInt8) : splitL 10 s = headLns s ++ [lastLn s] := ends_of [] (splitL_ne 10 s)
theorem lastLn_no (s : List UInt8) : 10 ∉ lastLn s := splitL_no 10 s _ (by rw [splitL_ends]; simp)
/-- All lines but the last of what stands ahead; then the last with what comes. -/
theorem splitL_append (v : List UInt8) : ∀ u, splitL 10 (u ++ v) = headLns u ++ splitL 10 (lastLn u ++ v)
  | [] => by simp [splitL, lastLn, headLns]
  | b :: u => by
    have ih := splitL_append v u
    by_cases hb : b = 10
    · subst hb
      have h1 : headLns (10 :: u) = [] :: headLns u := by
        unfold headLns; rw [splitL_cons_eq, List.dropLast_cons_of_ne_nil (splitL_ne 10 u)]
      have h2 : lastLn (10 :: u) = lastLn u := by
        unfold lastLn; rw [splitL_cons_eq]
        cases he : splitL 10 u with
        | nil => exact absurd he (splitL_ne 10 u)
        | cons y r => simp [List.getLastD]
      rw [h1, h2, List.cons_append, splitL_cons_eq, ih]
      rfl
    · obtain ⟨x, r, h1, h2⟩ := splitL_cons_ne hb u
      cases r with
      | nil =>
        have h6 := splitL_single 10 u x h1
        have h4 : lastLn (b :: u) = b :: x := by unfold lastLn; rw [h2]; rfl
        have h5 : headLns (b :: u) = [] := by unfold headLns; rw [h2]; rfl
        rw [h4, h5, h6]
        rfl
      | cons y r =>
        have h3 : lastLn (b :: u) = lastLn u := by
          unfold lastLn; rw [h1, h2]; simp [List.getLastD]
        have h4 : headLns (b :: u) = (b :: x) :: (y :: r).dropLast := by unfold headLns; rw [h2]; rfl
        have h5 : headLns u = x :: (y :: r).dropLast := by unfold headLns; rw [h1]; rfl
        rw [h3, h4, List.cons_append]
        rw [h5] at ih
        obtain ⟨x', r', k1, k2⟩ := splitL_cons_ne hb (u ++ v)
        rw [k2]
        rw [k1] at ih
        simp only [List.cons_append, List.cons.injEq] at ih ⊢
        exact ⟨⟨trivial, ih.1⟩, ih.2⟩
def headLn (s : List UInt8) : List UInt8 := (splitL 10 s).headD []
def tailLns (s : List UInt8) : List (List UInt8) := (splitL 10 s).tail
theorem splitL_front (s : List UInt8) : splitL 10 s = headLn s :: tailLns s := by
  unfold headLn tailLns
  cases h : splitL 10 s with
  | nil => exact absurd h (splitL_ne 10 s)
  | cons x r => rfl
theorem headLn_no (s : List UInt8) : 10 ∉ headLn s := splitL_no 10 s _ (by rw [splitL_front]; simp)
/-- What stands ahead with the first line; then the others. -/
theorem splitL_behind (v : List UInt8) : ∀ u, splitL 10 (u ++ v) = splitL 10 (u ++ headLn v) ++ tailLns v
  | [] => by
    rw [List.nil_append, List.nil_append, splitL_one (headLn_no v), splitL_front v]; rfl
  | b :: u => by
    have ih := splitL_behind v u
    by_cases hb : b = 10
    · subst hb
      rw [List.cons_append, List.cons_append, splitL_cons_eq, splitL_cons_eq, ih]; rfl
    · rw [List.cons_append, List.cons_append]
      obtain ⟨x, r, h1, h2⟩ := splitL_cons_ne hb (u ++ v)
      obtain ⟨x', r', k1, k2⟩ := splitL_cons_ne hb (u ++ headLn v)
      rw [h2, k2]
      rw [h1, k1] at ih
      simp only [List.cons_append, List.cons.injEq] at ih ⊢
      exact ⟨⟨trivial, ih.1⟩, ih.2⟩
theorem headLns_length (s : List UInt8) : (headLns s).length = s.count 10 := by
  have := splitL_length 10 s
  rw [splitL_ends] at this
  simpa using this
theorem bytesM_headLns (s : List UInt8) : bytesM (headLns s) + (lastLn s).length = s.length := by
  have := bytesM_split 10 s
  rw [splitL_ends, bytesM_append] at this
  simp [bytesM] at this ⊢
  omega
theorem getLastD_snoc {α : Type} (x d : α) : ∀ l : List α, (l ++ [x]).getLastD d = x
  | [] => rfl
  | [y] => rfl
  | y :: z :: l => by
    have ih := getLastD_snoc x d (z :: l)
    simpa [List.getLastD] using ih
theorem lastLn_snoc (s : List UInt8) (b : UInt8) : lastLn (s ++ [b]) = if b = 10 then [] else lastLn s ++ [b] := by
  show (splitL 10 (s ++ [b])).getLastD [] = _
  rw [splitL_append]
  by_cases hb : b = 10
  · subst hb
    rw [splitL_cut 10 (lastLn s) [] (fun x hx he => lastLn_no s (he ▸ hx)), if_pos rfl]
    have := getLastD_snoc ([] : List UInt8) [] (headLns s ++ [lastLn s])
    simpa [splitL] using this
  · rw [splitL_one (by simp only [List.mem_append, List.mem_singleton, not_or]; exact ⟨lastLn_no s, fun h => hb h.symm⟩), if_neg hb]
    exact getLastD_snoc _ _ _
theorem lastLn_len (s : List UInt8) : ((lastLn s).length : Int) = s.length - lastM s - 1 := by
  induction s using snoc_ind with
  | h0 => simp [lastLn, splitL, lastM_nil, List.getLastD]
  | h1 s b ih =>
    rw [lastLn_snoc, lastM_snoc]
    by_cases hb : b = 10
    · rw [if_pos hb, if_pos hb]
      simp only [List.length_append, List.length_singleton, List.length_nil]
      push_cast
      omega
    · rw [if_neg hb, if_neg hb]
      simp only [List.length_append, List.length_singleton]
      push_cast
      omega
/-- The place of an offset, by lines. -/
theorem placeOfM_eq {s : List UInt8} {n : Nat} (h : n ≤ s.length) : placeOfM s n = ((1 + ((headLns (s.take n)).length : Int), 1 + ((lastLn (s.take n)).length : Int)), 0) := by
  unfold placeOfM
  rw [if_neg (by omega), Int.toNat_natCast, headLns_length, lastLn_len, List.length_take_of_le h]
  congr 2
  omega
theorem offset_place {s : List UInt8} {n : Nat} (h : n ≤ s.length) : offsetM s (placeOfM s n).1.1 (placeOfM s n).1.2 = ((n : Int), 0) := by
  rw [placeOfM_eq h]
  simp only
  have hs : splitL 10 s = headLns (s.take n) ++ splitL 10 (lastLn (s.take n) ++ s.drop n) := by
    rw [← splitL_append, List.take_append_drop]
  have hb := bytesM_headLns (s.take n)
  rw [List.length_take_of_le h] at hb
  have hf := splitL_front (lastLn (s.take n) ++ s.drop n)
  have hl : (lastLn (s.take n)).length ≤ (headLn (lastLn (s.take n) ++ s.drop n)).length := by
    have h1 := splitL_behind (s.drop n) (lastLn (s.take n))
    have h2 : 10 ∉ lastLn (s.take n) ++ headLn (s.drop n) := by
      rw [List.mem_append]; exact fun h => h.elim (lastLn_no _) (headLn_no _)
    rw [splitL_one h2] at h1
    rw [h1] at hf
    have := (List.cons.inj hf).1
    rw [← this, List.length_append]
    omega
  rw [hf] at hs
  generalize headLns (s.take n) = A at *
  generalize lastLn (s.take n) = lu at *
  generalize headLn (lu ++ s.drop n) = y at *
  have e1 : (1 + (A.length : Int) - 1).toNat = A.length := by omega
  unfold offsetM
  rw [hs, e1]
  have e2 : (A ++ y :: tailLns (lu ++ s.drop n))[A.length]? = some y := by simp
  have e3 : (A ++ y :: tailLns (lu ++ s.drop n)).take A.length = A := by simp
  rw [e2, e3, Option.getD_some, if_neg]
  · congr 1; omega
  · simp only [List.length_append, List.length_cons]
    omega
/-- The lines of joined texts. -/
theorem splitL_LF (u v : List UInt8) : splitL 10 (u ++ [10] ++ v) = splitL 10 u ++ splitL 10 v := by
  rw [List.append_assoc, splitL_append, List.cons_append, List.nil_append, splitL_cut 10 _ _ (fun x hx he => lastLn_no u (he ▸ hx)), splitL_ends u]
  simp
theorem splitL_withLF : ∀ l : List (List UInt8), splitL 10 (withLF l) = l.flatMap (splitL 10) ++ [[]]
  | [] => by simp [withLF, splitL]
  | s :: l => by
    have ih := splitL_withLF l
    rw [show withLF (s :: l) = s ++ [10] ++ withLF l by simp [withLF], splitL_LF, ih]
    simp
theorem startsM_eq : ∀ (l : List (List UInt8)) (n : Int) (i : Nat), i < l.length → (startsM n l)[i]? = some (n + (((l.take i).flatMap (splitL 10)).length : Int))
  | [], _, i, h => by simp at h
  | s :: l, n, 0, _ => by simp [startsM]
  | s :: l, n, i + 1, h => by
    have ih := startsM_eq l (n + (1 + (s.count 10 : Int))) i (by simpa using h)
    simp only [startsM, List.getElem?_cons_succ, ih, List.take_succ_cons, List.flatMap_cons, List.length_append, splitL_length]
    congr 1
    push_cast
    omega

/-! ### A line in its text -/
theorem line_at : ∀ (s : List UInt8) (j : Nat) (x : List UInt8), (splitL 10 s)[j]? = some x → ∃ n : Nat, (n : Int) = bytesM ((splitL 10 s).take j) ∧ x <+: s.drop n ∧ n + x.length ≤ s.length
  | [], j, x, h => by
    cases j with
    | zero => simp [splitL] at h; subst h; exact ⟨0, by simp [bytesM], by simp, by simp⟩
    | succ j => simp [splitL] at h
  | b :: s, j, x, h => by
    by_cases hb : b = 10
    · subst hb
      rw [splitL_cons_eq] at h ⊢
      cases j with
      | zero => simp at h; subst h; exact ⟨0, by simp [bytesM], by simp, by simp⟩
      | succ j =>
        obtain ⟨n, h1, h2, h3⟩ := line_at s j x (by simpa using h)
        refine ⟨n + 1, ?_, by simpa using h2, by simp only [List.length_cons]; omega⟩
        simp only [List.take_succ_cons, bytesM, List.map_cons, List.sum_cons, List.length_nil] at h1 ⊢
        push_cast
        omega
    · obtain ⟨y, r, h1, h2⟩ := splitL_cons_ne hb s
      rw [h2] at h ⊢
      cases j with
      | zero =>
        simp at h
        subst h
        obtain ⟨n, k1, k2, k3⟩ := line_at s 0 y (by rw [h1]; rfl)
        simp [bytesM] at k1
        subst k1
        refine ⟨0, by simp [bytesM], ?_, by simp only [List.length_cons]; omega⟩
        simp only [List.drop_zero] at k2 ⊢
        exact List.cons_prefix_cons.2 ⟨rfl, k2⟩
      | succ j =>
        obtain ⟨n, k1, k2, k3⟩ := line_at s (j + 1) x (by rw [h1]; simpa using h)
        rw [h1] at k1
        refine ⟨n + 1, ?_, by simpa using k2, by simp only [List.length_cons]; omega⟩
        simp only [List.take_succ_cons, bytesM, List.map_cons, List.sum_cons, List.length_cons] at k1 ⊢
        push_cast
        omega

/-! ### Tokens in their text -/
theorem allToks_pairwise {want : Int → Bool} {R : Tok → Tok → Prop} : ∀ (ls : List (List UInt8)) (l : Int), (∀ (j : Nat) x, ls[j]? = some x → (keptOf want (l + j) (scanM x)).Pairwise R) →
    (∀ (i j : Nat) x y, i < j → ls[i]? = some x → ls[j]? = some y → ∀ t ∈ keptOf want (l + i) (scanM x), ∀ u ∈ keptOf want (l + j) (scanM y), R t u) → (allToks want l ls).Pairwise R
  | [], _, _, _ => .nil
  | s :: ls, l, h1, h2 => by
    simp only [allToks]
    refine List.pairwise_append.2 ⟨by simpa using h1 0 s rfl, allToks_pairwise ls (l + 1) (fun j x hx => ?_) (fun i j x y hij hx hy => ?_), fun t ht u hu => ?_⟩
    · have := h1 (j + 1) x (by simpa using hx)
      rwa [show l + ((j + 1 : Nat) : Int) = l + 1 + j by push_cast; omega] at this
    · have := h2 (i + 1) (j + 1) x y (by omega) (by simpa using hx) (by simpa using hy)
      rwa [show l + ((i + 1 : Nat) : Int) = l + 1 + i by push_cast; omega, show l + ((j + 1 : Nat) : Int) = l + 1 + j by push_cast; omega] at this
    · obtain ⟨j, x, hx, hm⟩ := allToks_mem want ls (l + 1) u hu
      refine h2 0 (j + 1) s x (by omega) rfl (by simpa using hx) t (by simpa using ht) u ?_
      rwa [show l + ((j + 1 : Nat) : Int) = l + 1 + j by push_cast; omega]
theorem bytesM_take_mono (l : List (List UInt8)) {i j : Nat} {x : List UInt8} (h : i < j) (hx : l[i]? = some x) : bytesM (l.take i) + x.length + 1 ≤ bytesM (l.take j) := by
  have h1 : l.take (i + 1) = (l.take j).take (i + 1) := by rw [List.take_take]; congr 1; omega
  have h2 := bytesM_take_le (l.take j) (i + 1)
  rw [← h1, bytesM_take_succ hx] at h2
  omega
/-- Where a token of the text stands. -/
theorem tok_at {want : Int → Bool} {s : List UInt8} {j : Nat} {x : List UInt8} (hx : (splitL 10 s)[j]? = some x) (he : errOf (scanM x) = none) {p : Pc} (hp : p ∈ scanM x) :
    ∃ n : Nat, offsetM s (1 + (j : Int)) (1 + p.a) = ((n : Int), 0) ∧ (n : Int) = bytesM ((splitL 10 s).take j) + p.a ∧ p.s <+: s.drop n ∧ p.s ≠ [] ∧ n + p.s.length ≤ s.length ∧ p.a + (p.s.length : Int) ≤ x.length ∧ 0 ≤ p.a := by
  obtain ⟨m, h1, h2, h3⟩ := line_at s j x hx
  obtain ⟨n, k1, k2, k3, k4⟩ := scan_text 0 x p hp (errOf_none he p hp)
  have hj := (List.getElem?_eq_some_iff.1 hx).1
  simp only [Nat.zero_add] at k1
  refine ⟨m + n, ?_, by rw [k1, ← h1]; push_cast; rfl, ?_, k3, by omega, by rw [k1]; omega, by omega⟩
  · unfold offsetM
    rw [show (1 + (j : Int) - 1).toNat = j by omega, hx, Option.getD_some, if_neg (by omega), ← h1, k1]
    congr 1
    push_cast
    omega
  · obtain ⟨r, hr⟩ := h2
    rw [← List.drop_drop, ← hr, List.drop_append_of_le_length (by omega)]
    exact k2.trans (List.prefix_append _ _)
theorem tok_of {want : Int → Bool} {s : List UInt8} (h0 : firstErr 1 (splitL 10 s) = none) {t : Tok} (ht : t ∈ allToks want 1 (splitL 10 s)) :
    ∃ n : Nat, offsetM s t.l t.c = ((n : Int), 0) ∧ t.s <+: s.drop n ∧ t.s ≠ [] ∧ n + t.s.length ≤ s.length := by
  obtain ⟨j, x, hx, hm⟩ := allToks_mem want _ 1 t ht
  obtain ⟨_, p, hp, _, rfl⟩ := keptOf_line hm
  obtain ⟨n, h1, _, h3, h4, h5, _⟩ := tok_at (want := want) hx (firstErr_none h0 x (List.mem_of_getElem? hx)) hp
  exact ⟨n, h1, h3, h4, h5⟩
theorem toks_order {want : Int → Bool} {s : List UInt8} (h0 : firstErr 1 (splitL 10 s) = none) :
    (allToks want 1 (splitL 10 s)).Pairwise fun t u => (offsetM s t.l t.c).1 + (t.s.length : Int) ≤ (offsetM s u.l u.c).1 ∧ (t.l < u.l ∨ t.l = u.l ∧ t.c < u.c) := by
  refine allToks_pairwise _ _ (fun j x hx => ?_) (fun i j x y hij hx hy t ht u hu => ?_)
  · have he := firstErr_none h0 x (List.mem_of_getElem? hx)
    unfold keptOf
    rw [List.pairwise_map]
    refine List.Pairwise.imp_of_mem ?_ ((scan_sorted 0 x).filter _)
    intro p q hp hq hpq
    obtain ⟨n, h1, h2, _⟩ := tok_at (want := want) hx he (List.mem_filter.1 hp).1
    obtain ⟨m, k1, k2, _⟩ := tok_at (want := want) hx he (List.mem_filter.1 hq).1
    simp only [tokOf, h1, k1]
    refine ⟨by omega, .inr ⟨trivial, by omega⟩⟩
  · obtain ⟨_, p, hp, _, rfl⟩ := keptOf_line ht
    obtain ⟨_, q, hq, _, rfl⟩ := keptOf_line hu
    obtain ⟨n, h1, h2, _, _, _, h6, _⟩ := tok_at (want := want) hx (firstErr_none h0 x (List.mem_of_getElem? hx)) hp
    obtain ⟨m, k1, k2, _, _, _, _, k7⟩ := tok_at (want := want) hy (firstErr_none h0 y (List.mem_of_getElem? hy)) hq
    have := bytesM_take_mono (splitL 10 s) hij hx
    simp only [tokOf, h1, k1]
    refine ⟨by omega, .inl (by omega)⟩
/-- The tokens of a text stand in it, in order. -/
theorem okToks_of {s : List UInt8} : ∀ (l : List Tok) (o : Option Tok), (∀ t ∈ l, (offsetM s t.l t.c).2 = 0) → l.Pairwise (fun t u => t.l < u.l ∨ t.l = u.l ∧ t.c < u.c) →
    (∀ p, o = some p → ∀ t ∈ l, p.l < t.l ∨ p.l = t.l ∧ p.c < t.c) → okToks s o l = true
  | [], _, _, _, _ => rfl
  | t :: l, o, h1, h2, h3 => by
    simp only [okToks, Bool.and_eq_true]
    refine ⟨?_, okToks_of l (some t) (fun u hu => h1 u (by simp [hu])) (List.pairwise_cons.1 h2).2 (fun p hp u hu => by cases hp; exact (List.pairwise_cons.1 h2).1 u hu)⟩
    have e := h1 t (by simp)
    cases o with
    | none => simp [okAt, e]
    | some p =>
      have hp := h3 p rfl t (by simp)
      simp only [okAt, e, decide_true, Bool.true_and, Bool.not_eq_true', Bool.or_eq_false_iff, decide_eq_false_iff_not]
      refine ⟨by omega, ?_⟩
      unfold compareM
      rcases hp with hp | ⟨hp, hq⟩
      · rw [show cmpM p.l t.l = -1 by unfold cmpM; rw [if_pos hp]]; simp
      · rw [show cmpM p.l t.l = 0 by unfold cmpM; rw [if_neg (by omega), if_neg (by omega)], show cmpM p.c t.c = -1 by unfold cmpM; rw [if_pos hq]]; simp
theorem okToks_own {s : List UInt8} (h0 : firstErr 1 (splitL 10 s) = none) : okToks s none (allToks isTok 1 (splitL 10 s)) = true :=
  okToks_of _ _ (fun t ht => by obtain ⟨n, h1, _⟩ := tok_of h0 ht; rw [h1]) ((toks_order h0).imp fun h => h.2) (fun p hp => by cases hp)

/-! ### A patch of a text's own tokens -/
theorem filter_allToks_lt {want : Int → Bool} (f : Int) (ls : List (List UInt8)) (l : Int) (h : l + ls.length ≤ f) : (allToks want l ls).filter (fun y => decide (y.l < f)) = allToks want l ls := by
  rw [List.filter_eq_self]
  intro t ht
  obtain ⟨j, x, hx, hm⟩ := allToks_mem want ls l t ht
  have := (List.getElem?_eq_some_iff.1 hx).1
  rw [decide_eq_true_eq, (keptOf_line hm).1]
  omega
theorem allToks_lines {want : Int → Bool} {ls : List (List UInt8)} {l : Int} {t : Tok} (ht : t ∈ allToks want l ls) : l ≤ t.l ∧ t.l < l + ls.length := by
  obtain ⟨j, x, hx, hm⟩ := allToks_mem want ls l t ht
  have := (List.getElem?_eq_some_iff.1 hx).1
  rw [(keptOf_line hm).1]
  omega
theorem patch_own {s : List UInt8} (hs : s.length ≤ 3000) {a b : Int} {x : List UInt8} (hx : x.length ≤ 3000) (he : (editM s a b x).2 = 0) (h0 : firstErr 1 (splitL 10 s) = none) :
    ∃ n : Int, 0 ≤ n ∧ n ≤ (tokensM (editM s a b x).1).1.length ∧ patchM (allToks isTok 1 (splitL 10 s)) s a b x = ((tokensM (editM s a b x).1).1, n, ((tokensM (editM s a b x).1).2.1, (tokensM (editM s a b x).1).2.2.1), (tokensM (editM s a b x).1).2.2.2) := by
  have hab : 0 ≤ a ∧ a ≤ b ∧ b ≤ s.length := by
    unfold editM at he
    split at he
    · cases he
    · omega
  obtain ⟨a, rfl⟩ := Int.eq_ofNat_of_zero_le hab.1
  obtain ⟨b, rfl⟩ := Int.eq_ofNat_of_zero_le (show 0 ≤ b by omega)
  have hed : (editM s a b x).1 = s.take a ++ x ++ s.drop b := by
    unfold editM at he ⊢
    split at he
    · cases he
    · rename_i h1
      split at he
      · cases he
      · rename_i h2
        rw [if_neg h1, if_neg h2]; rfl
  have hlen : (s.take a ++ x ++ s.drop b).length ≤ 6000 := by
    simp only [List.length_append, List.length_take, List.length_drop]; omega
  unfold patchM
  rw [if_neg (by simp [he]), okToks_own h0, if_neg (by simp)]
  rw [hed, tokensM_small hlen]
  -- the old text, the new one, by lines
  have hs3 : s = s.take a ++ ((s.drop a).take (b - a) ++ s.drop b) := by
    rw [show s.drop b = (s.drop a).drop (b - a) by rw [List.drop_drop]; congr 1; omega, List.take_append_drop, List.take_append_drop]
  generalize hu : s.take a = u at *
  generalize hw : (s.drop a).take (b - a) = w at *
  generalize hv : s.drop b = v at *
  have hul : u.length = a := by rw [← hu, List.length_take_of_le (by omega)]
  have hwl : w.length = b - a := by rw [← hw, List.length_take_of_le (by rw [List.length_drop]; omega)]
  have hold : splitL 10 s = headLns u ++ (splitL 10 (lastLn u ++ w ++ headLn v) ++ tailLns v) := by
    rw [hs3, splitL_append, ← List.append_assoc (lastLn u), splitL_behind]
  have hnew : splitL 10 (u ++ x ++ v) = headLns u ++ (splitL 10 (lastLn u ++ x ++ headLn v) ++ tailLns v) := by
    rw [List.append_assoc, splitL_append, ← List.append_assoc (lastLn u), splitL_behind]
  have c0 : ∀ z : List UInt8, (lastLn u ++ z ++ headLn v).count 10 = z.count 10 := fun z => by
    rw [List.count_append, List.count_append, List.count_eq_zero.2 (lastLn_no u), List.count_eq_zero.2 (headLn_no v)]; omega
  have hB : (splitL 10 (lastLn u ++ w ++ headLn v)).length = w.count 10 + 1 := by rw [splitL_length, c0]
  have hB' : (splitL 10 (lastLn u ++ x ++ headLn v)).length = x.count 10 + 1 := by rw [splitL_length, c0]
  have hpa : (placeOfM s a).1.1 = 1 + ((headLns u).length : Int) := by
    unfold placeOfM
    rw [if_neg (by omega), Int.toNat_natCast, hu, headLns_length]
  have hpb : (placeOfM s b).1.1 = ((headLns u).length : Int) + (w.count 10 + 1 : Nat) := by
    have : s.take b = u ++ w := by
      rw [← hu, ← hw, ← List.take_add]; congr 1; omega
    unfold placeOfM
    rw [if_neg (by omega), Int.toNat_natCast, this, List.count_append, headLns_length]
    push_cast
    omega
  have hpe : (placeOfM (u ++ x ++ v) ((a : Int) + x.length)).1.1 = ((headLns u).length : Int) + (x.count 10 + 1 : Nat) := by
    have : (u ++ x ++ v).take ((a : Int) + x.length).toNat = u ++ x := by
      rw [List.take_append_of_le_length (by rw [List.length_append]; omega), List.take_of_length_le (by rw [List.length_append]; omega)]
    unfold placeOfM
    rw [if_neg (by simp only [List.length_append]; push_cast; omega), this, List.count_append, headLns_length]
    push_cast
    omega
  rw [hpa, hpb, hpe, hnew]
  generalize headLns u = A at *
  generalize splitL 10 (lastLn u ++ w ++ headLn v) = B at *
  generalize splitL 10 (lastLn u ++ x ++ headLn v) = B' at *
  generalize tailLns v = C at *
  have e1 : ((A.length : Int) + (x.count 10 + 1 : Nat)).toNat = A.length + B'.length := by omega
  have e2 : (1 + (A.length : Int) - 1).toNat = A.length := by omega
  have e3 : ((A ++ (B' ++ C)).take (A.length + B'.length)).drop A.length = B' := by
    rw [← List.append_assoc, List.take_append_of_le_length (by simp), List.take_of_length_le (by simp)]; simp
  rw [e1, e2, e3, hold]
  rw [hold, firstErr_append, Option.or_eq_none_iff, firstErr_append, Option.or_eq_none_iff] at h0
  obtain ⟨g1, g2, g3⟩ := h0
  have g3' : firstErr (1 + (A.length : Int) + B'.length) C = none := by
    have := firstErr_shift ((B'.length : Int) - B.length) C (1 + A.length + B.length)
    rw [g3, show 1 + (A.length : Int) + B.length + (B'.length - B.length) = 1 + A.length + B'.length by omega] at this
    exact this
  rw [readM_eq, readM_eq, firstErr_append, g1, Option.none_or, firstErr_append, g3', Option.or_none]
  cases hf : firstErr (1 + (A.length : Int)) B' with
  | some e =>
    have hne : e.2.2 ≠ 0 := by
      have : ∀ (ls : List (List UInt8)) (l : Int) e, firstErr l ls = some e → e.2.2 ≠ 0 := by
        intro ls
        induction ls with
        | nil => intro l e h; cases h
        | cons y ls ih =>
          intro l e h
          simp only [firstErr] at h
          cases hp : errOf (scanM y) with
          | none => rw [hp] at h; exact ih _ _ h
          | some p =>
            rw [hp] at h
            cases h
            have := List.find?_some hp
            simpa using this
      exact this _ _ _ hf
    exact ⟨0, Int.le_refl _, by simp, by simp [patchT, hne]⟩
  | none =>
    simp only [List.nil_append]
    have k1 : (allToks isTok 1 (A ++ (B ++ C))).filter (fun y => decide (y.l < 1 + (A.length : Int))) = allToks isTok 1 A := by
      rw [allToks_append, List.filter_append, filter_allToks_lt _ _ _ (by omega)]
      rw [List.filter_eq_nil_iff.2, List.append_nil]
      intro t ht
      have := allToks_lines ht
      simp; omega
    have k2 : ((allToks isTok 1 (A ++ (B ++ C))).filter (fun y => !decide (y.l < 1 + (A.length : Int)) && decide ((A.length : Int) + (w.count 10 + 1 : Nat) < y.l))).map (shiftT ((A.length : Int) + (x.count 10 + 1 : Nat) - ((A.length : Int) + (w.count 10 + 1 : Nat)))) = allToks isTok (1 + (A.length : Int) + B'.length) C := by
      obtain ⟨P, hP⟩ : ∃ P : Tok → Bool, P = fun y => !decide (y.l < 1 + (A.length : Int)) && decide ((A.length : Int) + (w.count 10 + 1 : Nat) < y.l) := ⟨_, rfl⟩
      rw [← hP]
      have f1 : (allToks isTok 1 A).filter P = [] := List.filter_eq_nil_iff.2 fun t ht => by
        have := allToks_lines ht
        rw [hP]; simp; omega
      have f2 : (allToks isTok (1 + (A.length : Int)) B).filter P = [] := List.filter_eq_nil_iff.2 fun t ht => by
        have := allToks_lines ht
        rw [hP]; simp; omega
      have f3 : (allToks isTok (1 + (A.length : Int) + B.length) C).filter P = allToks isTok (1 + (A.length : Int) + B.length) C := List.filter_eq_self.2 fun t ht => by
        have := allToks_lines ht
        rw [hP]; simp; omega
      rw [allToks_append, allToks_append, List.filter_append, List.filter_append, f1, f2, f3, List.nil_append, List.nil_append, ← allToks_shift]
      congr 1
      omega
    have hnl : (allToks isTok 1 (A ++ (B' ++ C))).length ≤ 6000 := by
      have h1 := allToks_len isTok (A ++ (B' ++ C)) 1
      have h2 := splitL_sum 10 (u ++ x ++ v)
      rw [hnew] at h2
      omega
    have hall : allToks isTok 1 A ++ (allToks isTok (1 + (A.length : Int)) B' ++ allToks isTok (1 + (A.length : Int) + B'.length) C) = allToks isTok 1 (A ++ (B' ++ C)) := by
      rw [allToks_append, allToks_append]
    refine ⟨(allToks isTok (1 + (A.length : Int)) B').length, by omega, ?_, ?_⟩
    · rw [← hall]
      simp only [List.length_append]
      omega
    · unfold patchT
      simp only [ne_eq, not_true, if_false]
      rw [k1, k2, hall, if_neg (by omega)]
end Go.Plane
end
section
set_option linter.unnecessarySimpa false
set_option linter.unusedVariables false
set_option linter.unusedSimpArgs false
set_option maxRecDepth 100000
set_option maxHeartbeats 4000000
namespace Go.Plane
open Go Go.Proofs
attribute [local irreducible] wops wio wic wdt wdb onOut
def setL (n : Int) (t : Tok) : Tok := { t with l := n }
theorem keptOf_set (want : Int → Bool) (l n : Int) (ps : List Pc) : (keptOf want l ps).map (setL n) = keptOf want n ps := by
  simp only [keptOf, List.map_map]
  rfl
theorem same_self (l : List Tok) (h : l.length ≤ 4294967296) : F Γz 11 [.d (.slice (toksD l)), .d (.slice (toksD l))] (.d (.bool true)) := by
  have := r_SameTokens l l h h
  simpa using this
end Go.Plane
end
section
set_option linter.unnecessarySimpa false
set_option linter.unusedVariables false
set_option linter.unusedSimpArgs false
set_option maxRecDepth 100000
set_option maxHeartbeats 4000000
namespace Go.Plane
open Go Go.Proofs
attribute [local irreducible] wops wio wic wdt wdb onOut
theorem tokensM_eq {s : List UInt8} (h : s.length ≤ 6000) : tokensM s = match firstErr 1 (splitL 10 s) with
    | some e => ([], e)
    | none => (allToks isTok 1 (splitL 10 s), 0, 0, 0) := by
  rw [tokensM_small h, readM_eq]; rfl
theorem tokensM_len {s : List UInt8} (h : s.length ≤ 6000) : (tokensM s).1.length ≤ s.length := by
  rw [tokensM_small h]
  have h1 := readM_len isTok (splitL 10 s) 1 []
  have h2 := splitL_sum 10 s
  simp only [List.length_nil] at h1
  omega
theorem firstErr_ne : ∀ (ls : List (List UInt8)) (l : Int) (e : Int × Int × Int), firstErr l ls = some e → e.2.2 ≠ 0
  | [], _, _, h => by cases h
  | y :: ls, l, e, h => by
    simp only [firstErr] at h
    cases hp : errOf (scanM y) with
    | none => rw [hp] at h; exact firstErr_ne ls _ _ h
    | some p =>
      rw [hp] at h
      cases h
      have := List.find?_some hp
      simpa using this
end Go.Plane
end
section
set_option linter.unnecessarySimpa false
set_option linter.unusedVariables false
set_option linter.unusedSimpArgs false
set_option maxRecDepth 100000
set_option maxHeartbeats 4000000
namespace Go.Plane
open Go Go.Proofs
attribute [local irreducible] wops wio wic wdt wdb onOut
theorem firstErr_line : ∀ (ls : List (List UInt8)) (l : Int) (e : Int × Int × Int), firstErr l ls = some e → l ≤ e.1 ∧ e.1 < l + ls.length
  | [], _, _, h => by cases h
  | y :: ls, l, e, h => by
    simp only [firstErr] at h
    cases hp : errOf (scanM y) with
    | none =>
      rw [hp] at h
      have := firstErr_line ls _ _ h
      simp only [List.length_cons]
      push_cast
      omega
    | some p =>
      rw [hp] at h
      cases h
      simp only [List.length_cons]
      push_cast
      omega
theorem withLF_len (l : List (List UInt8)) (h : ∀ s ∈ l, s.length ≤ 100) : (withLF l).length ≤ l.length * 101 := by
  induction l with
  | nil => simp [withLF]
  | cons s l ih =>
    have h1 := ih (fun x hx => h x (by simp [hx]))
    have h2 := h s (by simp)
    simp [withLF] at h1 ⊢
    omega
end Go.Plane
end
section
set_option linter.unnecessarySimpa false
set_option linter.unusedVariables false
set_option linter.unusedSimpArgs false
namespace Go.Plane
open Go Go.Proofs
/-! ### Runs and signs -/
def isRun (t : List UInt8) : Prop := ∃ b r, t = b :: r ∧ b ≠ 95 ∧ ∀ c ∈ t, isPart c = true
theorem right_shape {t : Tok} (h : rightM t = true) : shapeM t.s = (t.k, 0) ∧ t.k ≠ 6 := by
  have := of_decide_eq_true h
  exact ⟨Prod.ext this.2.1 this.1, this.2.2⟩
theorem right_of {t : Tok} (h : shapeM t.s = (t.k, 0)) (h6 : t.k ≠ 6) : rightM t = true := by
  unfold rightM
  rw [decide_eq_true_eq, h]
  exact ⟨rfl, rfl, h6⟩
theorem digit_ne95 {b : UInt8} (h : isDigit b = true) : b ≠ 95 := by
  rintro rfl
  revert h
  decide
theorem shape_cases {s : List UInt8} {k : Int} (h : shapeM s = (k, 0)) : isRun s ∨ (s ∈ signs ∧ k = 5) := by
  unfold shapeM at h
  split at h
  · cases h
  · rename_i b r
    split at h
    · rename_i h1
      exact .inl ⟨b, r, rfl, digit_ne95 h1.2, takeWhile_all h1.1⟩
    · split at h
      · rename_i h1
        exact .inl ⟨b, r, rfl, h1.2, takeWhile_all h1.1⟩
      · split at h
        · rename_i h1
          exact .inr ⟨(mem_signs b r).2 h1, by cases h; rfl⟩
        · cases h
theorem run_noSign {t : List UInt8} (h : isRun t) : t ∉ signs := by
  obtain ⟨b, r, rfl, _, h1⟩ := h
  intro hs
  have := sign_head hs
  rw [h1 b (by simp)] at this
  cases this
theorem sign_ne {t : List UInt8} (h : t ∈ signs) : t ≠ [] := by
  have : ∀ x ∈ signs, x ≠ [] := by decide
  exact this t h
theorem sign_bytes {t : List UInt8} (h : t ∈ signs) : ∀ c ∈ t, c ≠ 32 ∧ c ≠ 10 := by
  have : ∀ x ∈ signs, ∀ c ∈ x, c ≠ 32 ∧ c ≠ 10 := by decide
  exact this t h
theorem part_bytes {c : UInt8} (h : isPart c = true) : c ≠ 32 ∧ c ≠ 10 ∧ c ≠ 45 := by
  refine ⟨?_, ?_, ?_⟩ <;> (rintro rfl; revert h; decide)
theorem right_cases {t : Tok} (h : rightM t = true) : isRun t.s ∨ (t.s ∈ signs ∧ t.k = 5) := shape_cases (right_shape h).1
theorem right_ne {t : Tok} (h : rightM t = true) : t.s ≠ [] := by
  rcases right_cases h with h | h
  · obtain ⟨b, r, h1, _⟩ := h; rw [h1]; simp
  · exact sign_ne h.1
theorem right_bytes {t : Tok} (h : rightM t = true) : ∀ c ∈ t.s, c ≠ 32 ∧ c ≠ 10 := by
  rcases right_cases h with h | h
  · obtain ⟨b, r, h1, _, h2⟩ := h
    exact fun c hc => ⟨(part_bytes (h2 c hc)).1, (part_bytes (h2 c hc)).2.1⟩
  · exact sign_bytes h.1
theorem takeWhile_stop {p : UInt8 → Bool} {u R : List UInt8} (h1 : ∀ c ∈ u, p c = true) (h2 : ∀ c, R.head? = some c → p c = false) : (u ++ R).takeWhile p = u := by
  rw [List.takeWhile_append_of_pos h1]
  cases R with
  | nil => simp
  | cons c R => rw [List.takeWhile_cons, if_neg (by simp [h2 c rfl])]; simp
theorem note_head {b : UInt8} {r : List UInt8} (h : b ≠ 45) : [45, 45].isPrefixOf (b :: r) = false := by
  simp [List.isPrefixOf, Ne.symm h]
theorem piece_run {i : Int} {b : UInt8} {r R : List UInt8} (h : isRun (b :: r)) (hR : ∀ c, R.head? = some c → isPart c = false) :
    pieceM i b (r ++ R) = (⟨(shapeM (b :: r)).1, b :: r, i, (shapeM (b :: r)).2⟩, (b :: r).length) := by
  obtain ⟨_, _, he, h95, hall⟩ := h
  cases he
  have htw : List.takeWhile isPart (b :: (r ++ R)) = b :: r := takeWhile_stop (u := b :: r) hall hR
  unfold pieceM
  rw [if_neg (by rw [note_head (part_bytes (hall b (by simp))).2.2]; simp), htw, if_pos ⟨by simp, h95⟩]
  have : List.take (b :: r).length (b :: (r ++ R)) = b :: r := by
    rw [← List.cons_append]; exact List.take_left
  rw [this]
theorem piece_sign {i : Int} {b : UInt8} {r R : List UInt8} (hs : b :: r ∈ signs) (h1 : signM (b :: r ++ R) = b :: r) (h2 : [45, 45].isPrefixOf (b :: r ++ R) = false) :
    pieceM i b (r ++ R) = (⟨5, b :: r, i, 0⟩, (b :: r).length) := by
  have hb := sign_head hs
  rw [List.cons_append] at h1 h2
  unfold pieceM
  rw [if_neg (by rw [h2]; simp), if_neg (by rw [List.takeWhile_cons, if_neg (by simp [hb])]; simp), h1]
  simp
/-- Such a text stands ahead of such another one, and is read by itself. -/
def fits (t R : List UInt8) : Prop := (t ∈ signs → signM (t ++ R) = t ∧ [45, 45].isPrefixOf (t ++ R) = false) ∧ (t ∉ signs → ∀ c, R.head? = some c → isPart c = false)
theorem ne32_of {t : Tok} (hr : rightM t = true) {b : UInt8} {r : List UInt8} (h : t.s = b :: r) : b ≠ 32 := (right_bytes hr b (by rw [h]; simp)).1
theorem scan_fits {i : Nat} {t : Tok} {R : List UInt8} (hr : rightM t = true) (hf : fits t.s R) : scan i (t.s ++ R) = ⟨t.k, t.s, i, 0⟩ :: scan (i + t.s.length) R := by
  obtain ⟨hsh, h6⟩ := right_shape hr
  cases hs : t.s with
  | nil => exact absurd hs (right_ne hr)
  | cons b r =>
    have hb := ne32_of hr hs
    rw [hs] at hsh hf
    have hp : pieceM i b (r ++ R) = (⟨t.k, b :: r, i, 0⟩, (b :: r).length) := by
      rcases right_cases hr with h | h
      · rw [hs] at h
        rw [piece_run h (hf.2 (run_noSign h)), hsh]
      · rw [hs] at h
        obtain ⟨k1, k2⟩ := hf.1 h.1
        rw [piece_sign h.1 k1 k2, h.2]
    rw [List.cons_append, scan_ok hb (by rw [hp]), hp]
    simp only
    congr 2
    rw [← List.cons_append]; exact List.drop_left
theorem fits_of_scan {i : Nat} {t : Tok} {R : List UInt8} {p : Pc} {q : List Pc} (hr : rightM t = true) (h : scan i (t.s ++ R) = p :: q) (he : p.e = 0) (hs : p.s = t.s) (hk : p.k = t.k) :
    fits t.s R ∧ q = scan (i + t.s.length) R := by
  obtain ⟨hsh, h6⟩ := right_shape hr
  cases hts : t.s with
  | nil => exact absurd hts (right_ne hr)
  | cons b r =>
    have hb := ne32_of hr hts
    rw [hts, List.cons_append] at h
    have hpe : (pieceM i b (r ++ R)).1.e = 0 := by
      apply Decidable.byContradiction
      intro hne
      rw [scan_err hb hne] at h
      rw [(List.cons.inj h).1] at hne
      exact hne he
    rw [scan_ok hb hpe] at h
    obtain ⟨h1, h2⟩ := List.cons.inj h
    have hlen := piece_len hpe
    have htx := (piece_text hpe).1
    rw [h1, hs, hts] at hlen htx
    refine ⟨?_, ?_⟩
    · rcases right_cases hr with hc | hc
      · rw [hts] at hc
        refine ⟨fun hsg => absurd hsg (run_noSign hc), fun _ c hc' => ?_⟩
        obtain ⟨_, _, heq, h95, hall⟩ := hc
        cases heq
        have hn : ¬[45, 45].isPrefixOf (b :: (r ++ R)) = true := by rw [note_head (part_bytes (hall b (by simp))).2.2]; simp
        have htw : 0 < (List.takeWhile isPart (b :: (r ++ R))).length := by rw [List.takeWhile_cons, if_pos (hall b (by simp))]; simp
        have hpm : (pieceM i b (r ++ R)).2 = (List.takeWhile isPart (b :: (r ++ R))).length := by
          unfold pieceM; rw [if_neg hn, if_pos ⟨htw, h95⟩]
        rw [hpm] at hlen
        have h3 : List.takeWhile isPart (b :: r ++ R) = (b :: r) ++ R.takeWhile isPart := List.takeWhile_append_of_pos hall
        rw [List.cons_append] at h3
        rw [h3, List.length_append] at hlen
        cases R with
        | nil => cases hc'
        | cons d R =>
          cases hc'
          rw [List.takeWhile_cons] at hlen
          split at hlen
          · simp at hlen
          · rename_i hd; simpa using hd
      · rw [hts] at hc
        refine ⟨fun _ => ?_, fun hn => absurd hc.1 hn⟩
        have hbp := sign_head hc.1
        have hn : [45, 45].isPrefixOf (b :: (r ++ R)) = false := by
          rcases piece_right hpe with h5 | h5
          · rw [h1, hk] at h5; exact absurd h5.1 h6
          · exact h5.2.2
        refine ⟨?_, hn⟩
        have hpm : (pieceM i b (r ++ R)).1.s = signM (b :: (r ++ R)) := by
          unfold pieceM
          rw [if_neg (by rw [hn]; simp), if_neg (by rw [List.takeWhile_cons, if_neg (by simp [hbp])]; simp)]
        rw [h1, hs, hts] at hpm
        exact hpm.symm
    · rw [← h2, ← hlen]
      congr 1
      rw [← List.cons_append]; exact List.drop_left
theorem signM_two (x y : UInt8) (l : List UInt8) : signM (x :: y :: l) = signM [x, y] := by
  unfold signM
  congr 1
theorem fits_ext {t R : List UInt8} (R' : List UInt8) (hR : R ≠ []) : fits t (R ++ R') ↔ fits t R := by
  unfold fits
  have h1 : (R ++ R').head? = R.head? := by cases R with | nil => exact absurd rfl hR | cons c R => rfl
  have h2 : t ∈ signs → signM (t ++ (R ++ R')) = signM (t ++ R) ∧ [45, 45].isPrefixOf (t ++ (R ++ R')) = [45, 45].isPrefixOf (t ++ R) := by
    intro hs
    have hne := sign_ne hs
    match t, R, hne, hR with
    | a :: [], c :: R, _, _ =>
      simp only [List.cons_append, List.nil_append]
      exact ⟨by rw [signM_two, signM_two a c R], by simp [List.isPrefixOf]⟩
    | a :: b :: t, R, _, _ =>
      simp only [List.cons_append]
      exact ⟨by rw [signM_two, signM_two a b (t ++ R)], by simp [List.isPrefixOf]⟩
  rw [h1]
  constructor
  · rintro ⟨k1, k2⟩
    exact ⟨fun hs => by have := k1 hs; rwa [(h2 hs).1, (h2 hs).2] at this, k2⟩
  · rintro ⟨k1, k2⟩
    exact ⟨fun hs => by have := k1 hs; rwa [(h2 hs).1, (h2 hs).2], k2⟩
theorem fits_nil (t : List UInt8) : fits t [] := by
  refine ⟨fun hs => ?_, fun _ c hc => by cases hc⟩
  have : ∀ x ∈ signs, signM (x ++ []) = x ∧ [45, 45].isPrefixOf (x ++ []) = false := by decide
  exact this t hs
theorem fits_blank (t R : List UInt8) : fits t (32 :: R) := by
  have h : fits t [32] := by
    refine ⟨fun hs => ?_, fun _ c hc => by cases hc; decide⟩
    have : ∀ x ∈ signs, signM (x ++ [32]) = x ∧ [45, 45].isPrefixOf (x ++ [32]) = false := by decide
    exact this t hs
  exact (fits_ext R (by simp)).2 h

/-! ### By kind and text -/
def kts (ps : List Pc) : List (Int × List UInt8) := (ps.filter fun p => isTok p.k).map fun p => (p.k, p.s)
theorem kept_kts (l : Int) (ps : List Pc) : (keptOf isTok l ps).map Tok.kt = kts ps := by
  simp only [keptOf, kts, List.map_map]
  rfl
theorem kts_cons {p : Pc} {q : List Pc} (h : p.k ≠ 6) : kts (p :: q) = (p.k, p.s) :: kts q := by
  have : isTok p.k = true := by simp [isTok, h]
  simp [kts, this]
theorem kts_note {p : Pc} {q : List Pc} (h : p.k = 6) : kts (p :: q) = kts q := by
  have : isTok p.k = false := by simp [isTok, h]
  simp [kts, this]
theorem scan_head {i : Nat} {c : UInt8} {u : List UInt8} (hc : c ≠ 32) (h0 : ∀ p ∈ scan i (c :: u), p.e = 0) {t : Int × List UInt8} {rest : List (Int × List UInt8)} (hk : kts (scan i (c :: u)) = t :: rest) :
    ∃ p q, scan i (c :: u) = p :: q ∧ (p.k, p.s) = t ∧ p.k ≠ 6 ∧ kts q = rest ∧ p.e = 0 := by
  have he : (pieceM i c u).1.e = 0 := by
    apply Decidable.byContradiction
    intro hne
    rw [scan_err hc hne] at h0
    exact hne (h0 _ (by simp))
  rw [scan_ok hc he] at hk ⊢
  rcases piece_right he with h | h
  · rw [kts_note h.1, h.2.2.1, List.drop_length, scan_nil'] at hk
    cases hk
  · rw [kts_cons h.1] at hk
    obtain ⟨h1, h2⟩ := List.cons.inj hk
    exact ⟨_, _, rfl, h1, h.1, h2, he⟩
theorem errOf_all {ps : List Pc} (h : ∀ p ∈ ps, p.e = 0) : errOf ps = none := by
  unfold errOf
  rw [List.find?_eq_none]
  intro p hp
  simp [h p hp]
theorem needs_fits {a b : Tok} (ha : rightM a = true) (hb : rightM b = true) : needsM a b = false ↔ fits a.s b.s := by
  have h2 : scan a.s.length b.s = [⟨b.k, b.s, a.s.length, 0⟩] := by
    have := scan_fits (i := a.s.length) hb (fits_nil b.s)
    rwa [List.append_nil, scan_nil'] at this
  unfold needsM
  rw [readM_eq]
  constructor
  · intro h
    have hf : errOf (scanM (a.s ++ b.s)) = none := by
      cases he : errOf (scanM (a.s ++ b.s)) with
      | none => rfl
      | some p =>
        have hne := List.find?_some he
        simp only [firstErr, he] at h
        simp at hne
        simp [hne] at h
    simp only [firstErr, hf, allToks, List.nil_append, List.append_nil, ne_eq, not_true, decide_false, Bool.false_or, Bool.not_eq_false'] at h
    have hk := of_decide_eq_true h
    rw [kept_kts, scanM_eq] at hk
    rw [scanM_eq] at hf
    have h0 := errOf_none hf
    cases hs : a.s with
    | nil => exact absurd hs (right_ne ha)
    | cons c u =>
      have hc := ne32_of ha hs
      rw [hs, List.cons_append] at hk h0
      obtain ⟨p, q, e1, e2, e3, e4, e5⟩ := scan_head hc h0 hk
      rw [← List.cons_append, ← hs] at e1
      simp only [Tok.kt, Prod.mk.injEq] at e2
      have := (fits_of_scan ha e1 e5 e2.2 e2.1).1
      rwa [hs] at this
  · intro h
    have h1 := scan_fits (i := 0) ha h
    rw [Nat.zero_add, h2] at h1
    have hf : errOf (scanM (a.s ++ b.s)) = none := by
      rw [scanM_eq, h1]; exact errOf_all (by simp)
    simp only [firstErr, hf, allToks, List.nil_append, List.append_nil, ne_eq, not_true, decide_false, Bool.false_or, Bool.not_eq_false']
    apply decide_eq_true
    rw [kept_kts, scanM_eq, h1]
    have k1 := (right_shape ha).2
    have k2 := (right_shape hb).2
    rw [kts_cons k1, kts_cons k2]
    rfl

/-! ### Texts of tokens are read back -/
section
variable {bl : Tok → Tok → Bool}
theorem fits_join (hbl : ∀ a b, rightM a = true → rightM b = true → bl a b = false → needsM a b = false) {t : Tok} (ht : rightM t = true) : ∀ l : List Tok, (∀ u ∈ l, rightM u = true) → fits t.s (joinTok bl (some t) l)
  | [], _ => fits_nil _
  | u :: l, h => by
    have hu := h u (by simp)
    simp only [joinTok, sepM]
    split
    · exact fits_blank _ _
    · rename_i hb
      rw [List.nil_append, fits_ext _ (right_ne hu)]
      exact (needs_fits ht hu).1 (hbl t u ht hu (by simpa using hb))
theorem scan_sep (o : Option Tok) (t : Tok) (i : Nat) (u : List UInt8) : ∃ j, scan i (sepM bl o t ++ u) = scan j u := by
  unfold sepM
  split
  · exact ⟨i, rfl⟩
  · split
    · exact ⟨i + 1, by simp [scan_blank]⟩
    · exact ⟨i, rfl⟩
theorem scan_join (hbl : ∀ a b, rightM a = true → rightM b = true → bl a b = false → needsM a b = false) : ∀ (l : List Tok) (o : Option Tok) (i : Nat), (∀ u ∈ l, rightM u = true) →
    (∀ p ∈ scan i (joinTok bl o l), p.e = 0) ∧ kts (scan i (joinTok bl o l)) = l.map Tok.kt
  | [], o, i, _ => by simp [joinTok, scan_nil', kts]
  | t :: l, o, i, h => by
    have ht := h t (by simp)
    have hl : ∀ u ∈ l, rightM u = true := fun u hu => h u (by simp [hu])
    simp only [joinTok, List.append_assoc]
    obtain ⟨j, hj⟩ := scan_sep (bl := bl) o t i (t.s ++ joinTok bl (some t) l)
    rw [hj, scan_fits ht (fits_join hbl ht l hl)]
    obtain ⟨k1, k2⟩ := scan_join hbl l (some t) (j + t.s.length) hl
    refine ⟨fun p hp => ?_, ?_⟩
    · rcases List.mem_cons.1 hp with rfl | hp
      · rfl
      · exact k1 p hp
    · rw [kts_cons (right_shape ht).2, k2]; rfl
theorem joinTok_bytes : ∀ (l : List Tok) (o : Option Tok), (∀ u ∈ l, rightM u = true) → 10 ∉ joinTok bl o l
  | [], o, _ => by simp [joinTok]
  | t :: l, o, h => by
    have ih := joinTok_bytes l (some t) (fun u hu => h u (by simp [hu]))
    have ht := right_bytes (h t (by simp))
    simp only [joinTok, List.mem_append, not_or]
    refine ⟨⟨?_, fun hc => (ht 10 hc).2 rfl⟩, ih⟩
    unfold sepM
    split
    · simp
    · split <;> simp
end
/-- The tokens of a text of right tokens. -/
theorem tokens_join {bl : Tok → Tok → Bool} (hbl : ∀ a b, rightM a = true → rightM b = true → bl a b = false → needsM a b = false) {l : List Tok} (h : ∀ u ∈ l, rightM u = true) (hn : l.length ≤ 6000) (hlen : (joinTok bl none l).length ≤ 20000) :
    (tokensM (joinTok bl none l)).2 = (0, 0, 0) ∧ (tokensM (joinTok bl none l)).1.map Tok.kt = l.map Tok.kt := by
  obtain ⟨k1, k2⟩ := scan_join hbl l none 0 h
  have hno := joinTok_bytes (bl := bl) l none h
  have hr : readM isTok 1 (splitL 10 (joinTok bl none l)) [] = (keptOf isTok 1 (scan 0 (joinTok bl none l)), 0, 0, 0) := by
    rw [splitL_one hno, readM_eq]
    simp only [firstErr, scanM_eq, errOf_all k1, allToks, List.append_nil, List.nil_append]
  have hkk : (keptOf isTok 1 (scan 0 (joinTok bl none l))).map Tok.kt = l.map Tok.kt := by rw [kept_kts, k2]
  have hll : (keptOf isTok 1 (scan 0 (joinTok bl none l))).length = l.length := by
    have := congrArg List.length hkk
    simpa using this
  unfold tokensM
  rw [if_neg (by omega), hr, if_neg (by simp only; omega)]
  exact ⟨rfl, hkk⟩
theorem joinTok_kt (bl : Tok → Tok → Bool) (hb : ∀ a b a' b' : Tok, a.kt = a'.kt → b.kt = b'.kt → bl a b = bl a' b') : ∀ (l m : List Tok) (o o' : Option Tok), l.map Tok.kt = m.map Tok.kt → o.map Tok.kt = o'.map Tok.kt → joinTok bl o l = joinTok bl o' m
  | [], [], _, _, _, _ => rfl
  | t :: l, u :: m, o, o', h, ho => by
    simp only [List.map_cons, List.cons.injEq] at h
    have hs : t.s = u.s := (Prod.mk.inj h.1).2
    simp only [joinTok]
    rw [joinTok_kt bl hb l m (some t) (some u) h.2 (by simp [h.1]), hs]
    congr 2
    cases o with
    | none => cases o' with
      | none => rfl
      | some b => cases ho
    | some a => cases o' with
      | none => cases ho
      | some b =>
        simp only [sepM]
        rw [hb a t b u (by simpa using ho) h.1]
  | [], u :: m, _, _, h, _ => by simp at h
  | t :: l, [], _, _, h, _ => by simp at h
theorem needsM_kt (a b a' b' : Tok) (h1 : a.kt = a'.kt) (h2 : b.kt = b'.kt) : needsM a b = needsM a' b' := by
  have e1 : a.s = a'.s := (Prod.mk.inj h1).2
  have e2 : b.s = b'.s := (Prod.mk.inj h2).2
  unfold needsM sameK
  simp only [e1, e2, List.map_cons, h1, h2, List.map_nil]
theorem rightM_kt {a b : Tok} (h : a.kt = b.kt) : rightM a = rightM b := by
  obtain ⟨h1, h2⟩ := Prod.mk.inj h
  unfold rightM
  rw [h1, h2]

/-! ### No blank can be left out -/
theorem blank_at {bl : Tok → Tok → Bool} : ∀ (l : List Tok) (o : Option Tok) (k : Nat), (∀ u ∈ l, rightM u = true) → (joinTok bl o l)[k]? = some 32 →
    ∃ l1 b l2 a, l = l1 ++ b :: l2 ∧ (joinTok bl o l).take k = joinTok bl o l1 ∧ (joinTok bl o l).drop (k + 1) = b.s ++ joinTok bl (some b) l2 ∧ l1.getLast?.or o = some a ∧ bl a b = true
  | [], _, _, _, h => by simp [joinTok] at h
  | t :: l, o, k, hr, h => by
    have ht := right_bytes (hr t (by simp))
    have hl : ∀ u ∈ l, rightM u = true := fun u hu => hr u (by simp [hu])
    simp only [joinTok] at h ⊢
    by_cases hk : k < (sepM bl o t).length
    · have hsep : ∃ a, o = some a ∧ bl a t = true ∧ sepM bl o t = [32] := by
        cases o with
        | none => simp [sepM] at hk
        | some a =>
          simp only [sepM] at hk ⊢
          split at hk
          · rename_i hb; exact ⟨a, rfl, hb, by rw [if_pos hb]⟩
          · simp at hk
      obtain ⟨a, rfl, hb, hs⟩ := hsep
      rw [hs] at hk ⊢
      have : k = 0 := by simp at hk; exact hk
      subst this
      exact ⟨[], t, l, a, rfl, by simp [joinTok], by simp, rfl, hb⟩
    · by_cases hk2 : k < (sepM bl o t ++ t.s).length
      · rw [List.getElem?_append_left hk2, List.getElem?_append_right (by omega)] at h
        exact absurd rfl (ht 32 (List.mem_of_getElem? h)).1
      · rw [List.getElem?_append_right (by omega)] at h
        obtain ⟨l1, b, l2, a, e1, e2, e3, e4, e5⟩ := blank_at l (some t) _ hl h
        refine ⟨t :: l1, b, l2, a, by rw [e1]; rfl, ?_, ?_, ?_, e5⟩
        · rw [List.take_append, e2, List.take_of_length_le (by omega)]
          rfl
        · rw [List.drop_append, List.drop_of_length_le (by omega), List.nil_append, show k + 1 - (sepM bl o t ++ t.s).length = k - (sepM bl o t ++ t.s).length + 1 by omega, e3]
        · rw [← e4]
          cases l1 with
          | nil => simp
          | cons y l1 =>
            simp only [List.getLast?_cons_cons]
            cases hh : (y :: l1).getLast? with
            | none => simp at hh
            | some z => rfl
theorem peel {bl : Tok → Tok → Bool} : ∀ (l : List Tok) (o : Option Tok) (i : Nat) (Y : List UInt8) (rest : List (Int × List UInt8)), (∀ u ∈ l, rightM u = true) → (∀ p ∈ scan i (joinTok bl o l ++ Y), p.e = 0) →
    kts (scan i (joinTok bl o l ++ Y)) = l.map Tok.kt ++ rest → ∃ j, (∀ p ∈ scan j Y, p.e = 0) ∧ kts (scan j Y) = rest ∧ ∀ a, l.getLast? = some a → fits a.s Y
  | [], o, i, Y, rest, _, h0, hk => ⟨i, h0, hk, fun a ha => by cases ha⟩
  | t :: l, o, i, Y, rest, hr, h0, hk => by
    have ht := hr t (by simp)
    simp only [joinTok, List.append_assoc] at h0 hk
    obtain ⟨j, hj⟩ := scan_sep (bl := bl) o t i (t.s ++ (joinTok bl (some t) l ++ Y))
    rw [hj] at h0 hk
    cases hs : t.s with
    | nil => exact absurd hs (right_ne ht)
    | cons c u =>
      have hc := ne32_of ht hs
      rw [hs, List.cons_append] at hk h0
      obtain ⟨p, q, e1, e2, e3, e4, e5⟩ := scan_head hc h0 hk
      have h0' := h0
      rw [e1] at h0'
      rw [← List.cons_append, ← hs] at e1
      simp only [Tok.kt, Prod.mk.injEq] at e2
      obtain ⟨f1, f2⟩ := fits_of_scan ht e1 e5 e2.2 e2.1
      subst f2
      obtain ⟨j', g1, g2, g3⟩ := peel l (some t) _ Y rest (fun x hx => hr x (by simp [hx])) (fun p hp => h0' p (by simp [hp])) e4
      refine ⟨j', g1, g2, fun a ha => ?_⟩
      cases l with
      | nil =>
        simp at ha
        subst ha
        exact f1
      | cons y l => exact g3 a (by rwa [List.getLast?_cons_cons] at ha)
/-- No blank of the shortest text can be left out. -/
theorem no_blank {l : List Tok} (h : ∀ u ∈ l, rightM u = true) {k : Nat} (hk : (joinTok needsM none l)[k]? = some 32)
    (h0 : ∀ p ∈ scan 0 ((joinTok needsM none l).take k ++ (joinTok needsM none l).drop (k + 1)), p.e = 0) : kts (scan 0 ((joinTok needsM none l).take k ++ (joinTok needsM none l).drop (k + 1))) ≠ l.map Tok.kt := by
  intro hkk
  obtain ⟨l1, b, l2, a, e1, e2, e3, e4, e5⟩ := blank_at l none k h hk
  rw [e2, e3] at h0 hkk
  rw [e1, List.map_append] at hkk
  have hr1 : ∀ u ∈ l1, rightM u = true := fun u hu => h u (by rw [e1]; simp [hu])
  have hrb : rightM b = true := h b (by rw [e1]; simp)
  obtain ⟨j, g1, g2, g3⟩ := peel l1 none 0 _ _ hr1 h0 hkk
  have hla : l1.getLast? = some a := by simpa using e4
  have hra : rightM a = true := hr1 a (List.mem_of_getLast? hla)
  have := (fits_ext _ (right_ne hrb)).1 (g3 a hla)
  rw [(needs_fits hra hrb).2 this] at e5
  cases e5

/-! ### The shortest text is not longer -/
theorem joinTok_append (bl : Tok → Tok → Bool) : ∀ (l m : List Tok) (o : Option Tok), joinTok bl o (l ++ m) = joinTok bl o l ++ joinTok bl (l.getLast?.or o) m
  | [], m, o => by simp [joinTok]
  | t :: l, m, o => by
    simp only [List.cons_append, joinTok, joinTok_append bl l m (some t), List.append_assoc]
    rw [show (t :: l).getLast?.or o = l.getLast?.or (some t) by
      cases l with
      | nil => simp
      | cons y l =>
        simp only [List.getLast?_cons_cons]
        cases h : (y :: l).getLast? with
        | none => simp at h
        | some z => rfl]
theorem tight_line (L : Int) : ∀ (i : Nat) (u : List UInt8), (∀ p ∈ scan i u, p.e = 0) → ∀ o : Option Tok, (∀ a, o = some a → rightM a = true) →
    (joinTok needsM o (keptOf isTok L (scan i u))).length ≤ u.length + o.toList.length ∧ ∀ a, o = some a → fits a.s u → (joinTok needsM o (keptOf isTok L (scan i u))).length ≤ u.length := by
  refine scan_ind (fun i h o ho => ?_) (fun i r ih h o ho => ?_) (fun i b r hb he h o ho => ?_) (fun i b r hb he ih h o ho => ?_)
  · simp [scan_nil', keptOf, joinTok]
  · rw [scan_blank] at h ⊢
    have ih := ih h o ho
    refine ⟨by simp only [List.length_cons]; omega, fun a ha _ => ?_⟩
    subst ha
    have := ih.1
    simp only [Option.toList, List.length_singleton] at this
    simp only [List.length_cons]
    omega
  · rw [scan_err hb he] at h
    exact absurd (h _ (by simp)) he
  · rw [scan_ok hb he] at h ⊢
    rcases piece_right he with hp | hp
    · have hn : isTok (pieceM i b r).1.k = false := by simp [isTok, hp.1]
      have : keptOf isTok L ((pieceM i b r).1 :: scan (i + (pieceM i b r).2) (List.drop (pieceM i b r).2 (b :: r))) = [] := by
        rw [hp.2.2.1, List.drop_length, scan_nil']
        simp [keptOf, hn]
      rw [this]
      simp [joinTok]
    · have hn : isTok (pieceM i b r).1.k = true := by simp [isTok, hp.1]
      have hrt : rightM (tokOf L (pieceM i b r).1) = true := right_of hp.2.1 hp.1
      have hs : scan i ((tokOf L (pieceM i b r).1).s ++ List.drop (pieceM i b r).2 (b :: r)) = (pieceM i b r).1 :: scan (i + (pieceM i b r).2) (List.drop (pieceM i b r).2 (b :: r)) := by
        have : (tokOf L (pieceM i b r).1).s ++ List.drop (pieceM i b r).2 (b :: r) = b :: r := by
          simp only [tokOf]
          rw [(piece_text he).1, List.take_append_drop]
        rw [this, scan_ok hb he]
      have hfit := (fits_of_scan hrt hs he rfl rfl).1
      have hlen := piece_len he
      have hle := pieceM_len i b r
      have ih := (ih (fun p hp => h p (by simp [hp])) (some (tokOf L (pieceM i b r).1)) (fun a ha => by cases ha; exact hrt)).2 _ rfl hfit
      have hk : keptOf isTok L ((pieceM i b r).1 :: scan (i + (pieceM i b r).2) (List.drop (pieceM i b r).2 (b :: r))) = tokOf L (pieceM i b r).1 :: keptOf isTok L (scan (i + (pieceM i b r).2) (List.drop (pieceM i b r).2 (b :: r))) := by
        simp [keptOf, hn]
      rw [hk]
      rw [List.length_drop] at ih
      simp only [joinTok, List.length_append]
      have hts : (tokOf L (pieceM i b r).1).s.length = (pieceM i b r).2 := hlen
      refine ⟨?_, fun a ha hfa => ?_⟩
      · have : (sepM needsM o (tokOf L (pieceM i b r).1)).length ≤ o.toList.length := by
          cases o with
          | none => simp [sepM]
          | some a => simp only [sepM, Option.toList, List.length_singleton]; split <;> simp
        omega
      · subst ha
        have hfa' : fits a.s (tokOf L (pieceM i b r).1).s := by
          have e : b :: r = (tokOf L (pieceM i b r).1).s ++ List.drop (pieceM i b r).2 (b :: r) := by
            simp only [tokOf]
            rw [(piece_text he).1, List.take_append_drop]
          rw [e] at hfa
          exact (fits_ext _ (right_ne hrt)).1 hfa
        have hno := (needs_fits (ho a rfl) hrt).2 hfa'
        simp only [sepM, hno, Bool.false_eq_true, if_false, List.length_nil]
        omega
theorem kept_right {L : Int} {u : List UInt8} (h : ∀ p ∈ scan 0 u, p.e = 0) : ∀ t ∈ keptOf isTok L (scan 0 u), rightM t = true := by
  intro t ht
  obtain ⟨_, p, hp, hw, rfl⟩ := keptOf_line ht
  have h6 : p.k ≠ 6 := by simpa [isTok] using hw
  exact right_of (scan_right 0 u p hp (h p hp) h6) h6
theorem allToks_right {L : Int} {ls : List (List UInt8)} (h : ∀ x ∈ ls, errOf (scanM x) = none) : ∀ t ∈ allToks isTok L ls, rightM t = true := by
  intro t ht
  obtain ⟨j, x, hx, hm⟩ := allToks_mem isTok ls L t ht
  exact kept_right (errOf_none (h x (List.mem_of_getElem? hx))) t hm
theorem tight_lines : ∀ (ls : List (List UInt8)) (L : Int) (o : Option Tok), (∀ x ∈ ls, errOf (scanM x) = none) → (∀ a, o = some a → rightM a = true) → ((joinTok needsM o (allToks isTok L ls)).length : Int) ≤ bytesM ls
  | [], L, o, _, _ => by simp [allToks, joinTok, bytesM]
  | x :: ls, L, o, h, ho => by
    have h1 := (tight_line L 0 x (errOf_none (h x (by simp))) o ho).1
    have h2 := tight_lines ls (L + 1) ((keptOf isTok L (scanM x)).getLast?.or o) (fun y hy => h y (by simp [hy])) (fun a ha => by
      cases hg : (keptOf isTok L (scanM x)).getLast? with
      | none => rw [hg] at ha; exact ho a (by simpa using ha)
      | some z =>
        rw [hg] at ha
        cases ha
        exact kept_right (errOf_none (h x (by simp))) _ (List.mem_of_getLast? hg))
    rw [scanM_eq] at h2
    simp only [allToks, scanM_eq, joinTok_append, List.length_append]
    have h3 : o.toList.length ≤ 1 := by cases o <;> simp
    simp only [bytesM, List.map_cons, List.sum_cons] at h2 ⊢
    push_cast
    omega
/-- The shortest text of a text's tokens is not longer. -/
theorem tight_len {s : List UInt8} (h0 : firstErr 1 (splitL 10 s) = none) : (joinTok needsM none (allToks isTok 1 (splitL 10 s))).length ≤ s.length := by
  have hall := firstErr_none h0
  have hb := bytesM_split 10 s
  have hf := splitL_front s
  rw [hf] at hall hb ⊢
  have h1 := (tight_line 1 0 (headLn s) (errOf_none (hall _ (by simp))) none (fun a ha => by cases ha)).1
  have h2 := tight_lines (tailLns s) (1 + 1) ((keptOf isTok 1 (scanM (headLn s))).getLast?.or none) (fun y hy => hall y (by simp [hy])) (fun a ha => by
    have hg : (keptOf isTok 1 (scanM (headLn s))).getLast? = some a := by simpa using ha
    exact kept_right (errOf_none (hall _ (by simp))) _ (List.mem_of_getLast? hg))
  rw [scanM_eq] at h2
  simp only [allToks, scanM_eq, joinTok_append, List.length_append]
  simp only [Option.toList, List.length_nil, Nat.add_zero] at h1
  simp only [bytesM, List.map_cons, List.sum_cons] at h2 hb
  omega
end Go.Plane
end
section
set_option linter.unnecessarySimpa false
set_option linter.unusedVariables false
set_option linter.unusedSimpArgs false
set_option maxRecDepth 100000
set_option maxHeartbeats 4000000
namespace Go.Plane
open Go Go.Proofs
attribute [local irreducible] wops wio wic wdt wdb onOut
theorem tokensM_6000 (s : List UInt8) : (tokensM s).1.length ≤ 6000 := by
  unfold tokensM
  split
  · simp
  · split
    · simp
    · rename_i h1 h2
      rw [readM_eq] at h2 ⊢
      cases hf : firstErr 1 (splitL 10 s) with
      | some e => simp
      | none =>
        rw [hf] at h2
        simp only [List.nil_append, true_and] at h2 ⊢
        omega
def sameM (a b : List UInt8) : Bool × Int :=
  if (tokensM a).2.2.2 ≠ 0 then (false, (tokensM a).2.2.2) else if (tokensM b).2.2.2 ≠ 0 then (false, (tokensM b).2.2.2) else (sameK (tokensM a).1 (tokensM b).1, 0)
theorem f_Same (a b : List UInt8) (ha : a.length ≤ 4294967296) (hb : b.length ≤ 4294967296) : F Γz 21 [.d (.str a), .d (.str b)] (.tup [.d (.bool (sameM a b).1), .d (.int .i64 (sameM a b).2)]) := by
  refine fn_of c21 rfl (by simp only [Env.of, List.zipIdx, List.map]; rfl) ?_
  have h1 := f_Tokens a ha
  have h2 := f_Tokens b hb
  have h3 := f_EqualFunc (tokensM a).1 (tokensM b).1 (by have := tokensM_6000 a; omega) (by have := tokensM_6000 b; omega)
  by_cases he : (tokensM a).2.2.2 = 0
  case neg =>
    have : sameM a b = (false, (tokensM a).2.2.2) := by unfold sameM; rw [if_pos he]
    rw [this]
    generalize tokensM a = A at *
    repeat' (first | ((with_reducible refine wcm ?_); first | refine cF (h1) ?_) | refine dr ?_ | (refine ds ?_ ?_ <;> intro hb) | ((with_reducible refine dbm ?_); first | exact db_nil | refine dbc ?_ ?_) | ((with_reducible refine natle ?_); first | assumption | omega | (simp; omega)))
    all_goals (simp; done)
  by_cases hf : (tokensM b).2.2.2 = 0
  case neg =>
    have : sameM a b = (false, (tokensM b).2.2.2) := by unfold sameM; rw [if_neg (by simp [he]), if_pos hf]
    rw [this]
    generalize tokensM a = A at *
    generalize tokensM b = B at *
    repeat' (first | ((with_reducible refine wcm ?_); first | refine cF (h1) ?_ | refine cF (h2) ?_) | refine dr ?_ | (refine ds ?_ ?_ <;> intro hb) | ((with_reducible refine dbm ?_); first | exact db_nil | refine dbc ?_ ?_) | ((with_reducible refine natle ?_); first | assumption | omega | (simp; omega)))
    all_goals (simp; done)
  have : sameM a b = (sameK (tokensM a).1 (tokensM b).1, 0) := by unfold sameM; rw [if_neg (by simp [he]), if_neg (by simp [hf])]
  rw [this]
  generalize tokensM a = A at *
  generalize tokensM b = B at *
  repeat' (first | ((with_reducible refine wcm ?_); first | refine cF (h1) ?_ | refine cF (h2) ?_ | refine cF (h3) ?_) | refine dr ?_ | (refine ds ?_ ?_ <;> intro hb) | ((with_reducible refine dbm ?_); first | exact db_nil | refine dbc ?_ ?_) | ((with_reducible refine natle ?_); first | assumption | omega | (simp; omega)))
  all_goals (simp; done)
theorem sum_le (l : List Tok) (B : Nat) (h : ∀ t ∈ l, t.s.length ≤ B) : (l.map fun t => t.s.length + 1).sum ≤ l.length * (B + 1) := by
  induction l with
  | nil => simp
  | cons t l ih =>
    have h1 := ih (fun u hu => h u (by simp [hu]))
    have h2 := h t (by simp)
    simp only [List.map_cons, List.sum_cons, List.length_cons, Nat.succ_mul]
    omega
theorem writeM_ok {bl : Tok → Tok → Bool} {l : List Tok} (h6 : l.length ≤ 6000) (hr : ∀ t ∈ l, rightM t = true) (hl : (joinTok bl none l).length ≤ 20000) : writeM bl l = (joinTok bl none l, 0) := by
  unfold writeM
  rw [if_neg (by omega), if_neg, if_neg (by omega)]
  rw [Bool.not_eq_true, List.any_eq_false]
  intro t ht
  rw [hr t ht]
  simp
end Go.Plane
end
section
set_option linter.unnecessarySimpa false
set_option linter.unusedVariables false
set_option linter.unusedSimpArgs false
set_option maxRecDepth 100000
set_option maxHeartbeats 4000000
namespace Go.Plane
open Go Go.Proofs
attribute [local irreducible] wops wio wic wdt wdb onOut
theorem tokensM_ok {u : List UInt8} (h10 : 10 ∉ u) (he : (tokensM u).2.2.2 = 0) : (∀ p ∈ scan 0 u, p.e = 0) ∧ (tokensM u).1 = keptOf isTok 1 (scan 0 u) := by
  unfold tokensM at he ⊢
  split at he
  · cases he
  · rename_i h1
    split at he
    · cases he
    · rename_i h2
      rw [if_neg h1, if_neg h2]
      rw [splitL_one h10, readM_eq] at he ⊢
      cases hf : errOf (scanM u) with
      | some p =>
        simp only [firstErr, hf] at he
        have := List.find?_some hf
        simp [he] at this
      | none =>
        simp only [firstErr, hf, allToks, List.nil_append, List.append_nil]
        exact ⟨errOf_none hf, rfl⟩
theorem joinTok_mono (bl : Tok → Tok → Bool) : ∀ (l : List Tok) (o : Option Tok), (joinTok bl o l).length ≤ (joinTok (fun _ _ => true) o l).length
  | [], _ => by simp [joinTok]
  | t :: l, o => by
    have ih := joinTok_mono bl l (some t)
    have h2 : (sepM bl o t).length ≤ (sepM (fun _ _ => true) o t).length := by
      cases o with
      | none => simp [sepM]
      | some a => simp only [sepM, if_true]; split <;> simp
    simp only [joinTok, List.length_append]
    omega
theorem joinTok_le (bl : Tok → Tok → Bool) (l : List Tok) (B : Nat) (h : ∀ t ∈ l, t.s.length ≤ B) : (joinTok bl none l).length ≤ l.length * (B + 1) :=
  Nat.le_trans (joinTok_len bl l none) (sum_le l B h)
theorem kt_mem {l m : List Tok} (h : l.map Tok.kt = m.map Tok.kt) : ∀ t ∈ l, ∃ u ∈ m, t.kt = u.kt := by
  intro t ht
  have : t.kt ∈ m.map Tok.kt := by rw [← h]; exact List.mem_map.2 ⟨t, ht, rfl⟩
  obtain ⟨u, hu, he⟩ := List.mem_map.1 this
  exact ⟨u, hu, he.symm⟩
theorem kt_text {a b : Tok} (h : a.kt = b.kt) : a.s = b.s := (Prod.mk.inj h).2
end Go.Plane
end

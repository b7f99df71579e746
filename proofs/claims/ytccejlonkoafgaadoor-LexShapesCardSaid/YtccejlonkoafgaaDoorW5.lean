/- A part of the proof: the calculus over pure values, contracts of functions, and plain lemmas. -/
import Derived.Test.YtccejlonkoafgaaDoorW4
import Derived.Test.YtccejlonkoafgaaDoorW2
import Derived.Carry
import Derived.Deep.Slices
import Derived.SizedLaws
import Derived.Handed
import Derived.OpenShut
import Derived.RowKit
import Derived.Test.YtccejlonkoafgaaDoorCards
import Derived.Test.YtccejlonkoafgaaDoorTie
import Derived.Lay
import Derived.LaidMore
import Derived.MakeChecks
import Derived.Shelf.Vars
import Derived.Stop.Joined
import Derived.Stop.LaidErr
import Derived.SevenTiedAt
section
set_option linter.unusedVariables false
set_option linter.unusedSimpArgs false
namespace Go.Plane
open Go Go.Proofs
/-! ### Lines of texts -/
theorem ends_of {α : Type} (d : α) : ∀ {l : List α}, l ≠ [] → l = l.dropLast ++ [l.getLastD d]
  | [], h => absurd rfl h
  | [x], _ => rfl
  | x :: y :: l, _ => by
    have ih := ends_of d (l := y :: l) (by simp)
    simp only [List.dropLast_cons_of_ne_nil (List.cons_ne_nil y l), List.cons_append]
    rw [show (x :: y :: l).getLastD d = (y :: l).getLastD d by simp [List.getLastD]]
    rw [← ih]
theorem splitL_cons_ne {b c : UInt8} (h : b ≠ c) (s : List UInt8) : ∃ x r, splitL c s = x :: r ∧ splitL c (b :: s) = (b :: x) :: r := by
  cases he : splitL c s with
  | nil => exact absurd he (splitL_ne c s)
  | cons x r => exact ⟨x, r, rfl, by simp [splitL, h, he]⟩
theorem splitL_cons_eq (c : UInt8) (s : List UInt8) : splitL c (c :: s) = [] :: splitL c s := by simp [splitL]
theorem splitL_single (c : UInt8) : ∀ (u x : List UInt8), splitL c u = [x] → u = x
  | [], x, h => by simpa [splitL] using h
  | b :: u, x, h => by
    by_cases hb : b = c
    · subst hb
      rw [splitL_cons_eq] at h
      exact absurd (List.cons.inj h).2 (splitL_ne b u)
    · obtain ⟨y, r, h1, h2⟩ := splitL_cons_ne hb u
      rw [h2] at h
      obtain ⟨rfl, rfl⟩ := List.cons.inj h
      rw [splitL_single c u y h1]
def lastLn (s : List UInt8) : List UInt8 := (splitL 10 s).getLastD []
def headLns (s : List UInt8) : List (List UInt8) := (splitL 10 s).dropLast
theorem splitL_ends (s : List UInt8) : splitL 10 s = headLns s ++ [lastLn s] := ends_of [] (splitL_ne 10 s)
theorem lastLn_no (s : List UInt8) : 10 ∉ lastLn s := splitL_no 10 s _ (by rw [splitL_ends]; simp)
/-- All lines but the last of what stands ahead; then the last with what comes. -/
theorem splitL_append (v : List UInt8) : ∀ u, splitL 10 (u ++ v) = headLns u ++ splitL 10 (lastLn u ++ v)
  | [] => by simp [splitL, lastLn, headLns]
  | b :: u => by
    have ih := splitL_append v u
    by_cases hb : b = 10
    · subst hb
      have h1 : headLns (10 :: u) = [] :: headLns u := by
        unfold headLns; rw [splitL_cons_eq, List.dropLast_cons_of_ne_nil (splitL_ne 10 u)]
      have h2 : lastLn (10 :: u) = lastLn u := by
        unfold lastLn; rw [splitL_cons_eq]
        cases he : splitL 10 u with
        | nil => exact absurd he (splitL_ne 10 u)
        | cons y r => simp [List.getLastD]
      rw [h1, h2, List.cons_append, splitL_cons_eq, ih]
      rfl
    · obtain ⟨x, r, h1, h2⟩ := splitL_cons_ne hb u
      cases r with
      | nil =>
        have h6 := splitL_single 10 u x h1
        have h4 : lastLn (b :: u) = b :: x := by unfold lastLn; rw [h2]; rfl
        have h5 : headLns (b :: u) = [] := by unfold headLns; rw [h2]; rfl
        rw [h4, h5, h6]
        rfl
      | cons y r =>
        have h3 : lastLn (b :: u) = lastLn u := by
          unfold lastLn; rw [h1, h2]; simp [List.getLastD]
        have h4 : headLns (b :: u) = (b :: x) :: (y :: r).dropLast := by unfold headLns; rw [h2]; rfl
        have h5 : headLns u = x :: (y :: r).dropLast := by unfold headLns; rw [h1]; rfl
        rw [h3, h4, List.cons_append]
        rw [h5] at ih
        obtain ⟨x', r', k1, k2⟩ := splitL_cons_ne hb (u ++ v)
        rw [k2]
        rw [k1] at ih
        simp only [List.cons_append, List.cons.injEq] at ih ⊢
        exact ⟨⟨trivial, ih.1⟩, ih.2⟩
def headLn (s : List UInt8) : List UInt8 := (splitL 10 s).headD []
def tailLns (s : List UInt8) : List (List UInt8) := (splitL 10 s).tail
theorem splitL_front (s : List UInt8) : splitL 10 s = headLn s :: tailLns s := by
  unfold headLn tailLns
  cases h : splitL 10 s with
  | nil => exact absurd h (splitL_ne 10 s)
  | cons x r => rfl
theorem headLn_no (s : List UInt8) : 10 ∉ headLn s := splitL_no 10 s _ (by rw [splitL_front]; simp)
/-- What stands ahead with the first line; then the others. -/
theorem splitL_behind (v : List UInt8) : ∀ u, splitL 10 (u ++ v) = splitL 10 (u ++ headLn v) ++ tailLns v
  | [] => by
    rw [List.nil_append, List.nil_append, splitL_one (headLn_no v), splitL_front v]; rfl
  | b :: u => by
    have ih := splitL_behind v u
    by_cases hb : b = 10
    · subst hb
      rw [List.cons_append, List.cons_append, splitL_cons_eq, splitL_cons_eq, ih]; rfl
    · rw [List.cons_append, List.cons_append]
      obtain ⟨x, r, h1, h2⟩ := splitL_cons_ne hb (u ++ v)
      obtain ⟨x', r', k1, k2⟩ := splitL_cons_ne hb (u ++ headLn v)
      rw [h2, k2]
      rw [h1, k1] at ih
      simp only [List.cons_append, List.cons.injEq] at ih ⊢
      exact ⟨⟨trivial, ih.1⟩, ih.2⟩
theorem headLns_length (s : List UInt8) : (headLns s).length = s.count 10 := by
  have := splitL_length 10 s
  rw [splitL_ends] at this
  simpa using this
theorem bytesM_headLns (s : List UInt8) : bytesM (headLns s) + (lastLn s).length = s.length := by
  have := bytesM_split 10 s
  rw [splitL_ends, bytesM_append] at this
  simp [bytesM] at this ⊢
  omega
theorem getLastD_snoc {α : Type} (x d : α) : ∀ l : List α, (l ++ [x]).getLastD d = x
  | [] => rfl
  | [y] => rfl
  | y :: z :: l => by
    have ih := getLastD_snoc x d (z :: l)
    simpa [List.getLastD] using ih
theorem lastLn_snoc (s : List UInt8) (b : UInt8) : lastLn (s ++ [b]) = if b = 10 then [] else lastLn s ++ [b] := by
  show (splitL 10 (s ++ [b])).getLastD [] = _
  rw [splitL_append]
  by_cases hb : b = 10
  · subst hb
    rw [splitL_cut 10 (lastLn s) [] (fun x hx he => lastLn_no s (he ▸ hx)), if_pos rfl]
    have := getLastD_snoc ([] : List UInt8) [] (headLns s ++ [lastLn s])
    simpa [splitL] using this
  · rw [splitL_one (by simp only [List.mem_append, List.mem_singleton, not_or]; exact ⟨lastLn_no s, fun h => hb h.symm⟩), if_neg hb]
    exact getLastD_snoc _ _ _
theorem lastLn_len (s : List UInt8) : ((lastLn s).length : Int) = s.length - lastM s - 1 := by
  induction s using snoc_ind with
  | h0 => simp [lastLn, splitL, lastM_nil, List.getLastD]
  | h1 s b ih =>
    rw [lastLn_snoc, lastM_snoc]
    by_cases hb : b = 10
    · rw [if_pos hb, if_pos hb]
      simp only [List.length_append, List.length_singleton, List.length_nil]
      push_cast
      omega
    · rw [if_neg hb, if_neg hb]
      simp only [List.length_append, List.length_singleton]
      push_cast
      omega
/-- The place of an offset, by lines. -/
theorem placeOfM_eq {s : List UInt8} {n : Nat} (h : n ≤ s.length) : placeOfM s n = ((1 + ((headLns (s.take n)).length : Int), 1 + ((lastLn (s.take n)).length : Int)), 0) := by
  unfold placeOfM
  rw [if_neg (by omega), Int.toNat_natCast, headLns_length, lastLn_len, List.length_take_of_le h]
  congr 2
  omega
theorem offset_place {s : List UInt8} {n : Nat} (h : n ≤ s.length) : offsetM s (placeOfM s n).1.1 (placeOfM s n).1.2 = ((n : Int), 0) := by
  rw [placeOfM_eq h]
  simp only
  have hs : splitL 10 s = headLns (s.take n) ++ splitL 10 (lastLn (s.take n) ++ s.drop n) := by
    rw [← splitL_append, List.take_append_drop]
  have hb := bytesM_headLns (s.take n)
  rw [List.length_take_of_le h] at hb
  have hf := splitL_front (lastLn (s.take n) ++ s.drop n)
  have hl : (lastLn (s.take n)).length ≤ (headLn (lastLn (s.take n) ++ s.drop n)).length := by
    have h1 := splitL_behind (s.drop n) (lastLn (s.take n))
    have h2 : 10 ∉ lastLn (s.take n) ++ headLn (s.drop n) := by
      rw [List.mem_append]; exact fun h => h.elim (lastLn_no _) (headLn_no _)
    rw [splitL_one h2] at h1
    rw [h1] at hf
    have := (List.cons.inj hf).1
    rw [← this, List.length_append]
    omega
  rw [hf] at hs
  generalize headLns (s.take n) = A at *
  generalize lastLn (s.take n) = lu at *
  generalize headLn (lu ++ s.drop n) = y at *
  have e1 : (1 + (A.length : Int) - 1).toNat = A.length := by omega
  unfold offsetM
  rw [hs, e1]
  have e2 : (A ++ y :: tailLns (lu ++ s.drop n))[A.length]? = some y := by simp
  have e3 : (A ++ y :: tailLns (lu ++ s.drop n)).take A.length = A := by simp
  rw [e2, e3, Option.getD_some, if_neg]
  · congr 1; omega
  · simp only [List.length_append, List.length_cons]
    omega
/-- The lines of joined texts. -/
theorem splitL_LF (u v : List UInt8) : splitL 10 (u ++ [10] ++ v) = splitL 10 u ++ splitL 10 v := by
  rw [List.append_assoc, splitL_append, List.cons_append, List.nil_append, splitL_cut 10 _ _ (fun x hx he => lastLn_no u (he ▸ hx)), splitL_ends u]
  simp
theorem splitL_withLF : ∀ l : List (List UInt8), splitL 10 (withLF l) = l.flatMap (splitL 10) ++ [[]]
  | [] => by simp [withLF, splitL]
  | s :: l => by
    have ih := splitL_withLF l
    rw [show withLF (s :: l) = s ++ [10] ++ withLF l by simp [withLF], splitL_LF, ih]
    simp
theorem startsM_eq : ∀ (l : List (List UInt8)) (n : Int) (i : Nat), i < l.length → (startsM n l)[i]? = some (n + (((l.take i).flatMap (splitL 10)).length : Int))
  | [], _, i, h => by simp at h
  | s :: l, n, 0, _ => by simp [startsM]
  | s :: l, n, i + 1, h => by
    have ih := startsM_eq l (n + (1 + (s.count 10 : Int))) i (by simpa using h)
    simp only [startsM, List.getElem?_cons_succ, ih, List.take_succ_cons, List.flatMap_cons, List.length_append, splitL_length]
    congr 1
    push_cast
    omega

/-! ### A line in its text -/
theorem line_at : ∀ (s : List UInt8) (j : Nat) (x : List UInt8), (splitL 10 s)[j]? = some x → ∃ n : Nat, (n : Int) = bytesM ((splitL 10 s).take j) ∧ x <+: s.drop n ∧ n + x.length ≤ s.length
  | [], j, x, h => by
    cases j with
    | zero => simp [splitL] at h; subst h; exact ⟨0, by simp [bytesM], by simp, by simp⟩
    | succ j => simp [splitL] at h
  | b :: s, j, x, h => by
    by_cases hb : b = 10
    · subst hb
      rw [splitL_cons_eq] at h ⊢
      cases j with
      | zero => simp at h; subst h; exact ⟨0, by simp [bytesM], by simp, by simp⟩
      | succ j =>
        obtain ⟨n, h1, h2, h3⟩ := line_at s j x (by simpa using h)
        refine ⟨n + 1, ?_, by simpa using h2, by simp only [List.length_cons]; omega⟩
        simp only [List.take_succ_cons, bytesM, List.map_cons, List.sum_cons, List.length_nil] at h1 ⊢
        push_cast
        omega
    · obtain ⟨y, r, h1, h2⟩ := splitL_cons_ne hb s
      rw [h2] at h ⊢
      cases j with
      | zero =>
        simp at h
        subst h
        obtain ⟨n, k1, k2, k3⟩ := line_at s 0 y (by rw [h1]; rfl)
        simp [bytesM] at k1
        subst k1
        refine ⟨0, by simp [bytesM], ?_, by simp only [List.length_cons]; omega⟩
        simp only [List.drop_zero] at k2 ⊢
        exact List.cons_prefix_cons.2 ⟨rfl, k2⟩
      | succ j =>
        obtain ⟨n, k1, k2, k3⟩ := line_at s (j + 1) x (by rw [h1]; simpa using h)
        rw [h1] at k1
        refine ⟨n + 1, ?_, by simpa using k2, by simp only [List.length_cons]; omega⟩
        simp only [List.take_succ_cons, bytesM, List.map_cons, List.sum_cons, List.length_cons] at k1 ⊢
        push_cast
        omega

/-! ### Tokens in their text -/
theorem allToks_pairwise {want : Int → Bool} {R : Tok → Tok → Prop} : ∀ (ls : List (List UInt8)) (l : Int), (∀ (j : Nat) x, ls[j]? = some x → (keptOf want (l + j) (scanM x)).Pairwise R) →
    (∀ (i j : Nat) x y, i < j → ls[i]? = some x → ls[j]? = some y → ∀ t ∈ keptOf want (l + i) (scanM x), ∀ u ∈ keptOf want (l + j) (scanM y), R t u) → (allToks want l ls).Pairwise R
  | [], _, _, _ => .nil
  | s :: ls, l, h1, h2 => by
    simp only [allToks]
    refine List.pairwise_append.2 ⟨by simpa using h1 0 s rfl, allToks_pairwise ls (l + 1) (fun j x hx => ?_) (fun i j x y hij hx hy => ?_), fun t ht u hu => ?_⟩
    · have := h1 (j + 1) x (by simpa using hx)
      rwa [show l + ((j + 1 : Nat) : Int) = l + 1 + j by push_cast; omega] at this
    · have := h2 (i + 1) (j + 1) x y (by omega) (by simpa using hx) (by simpa using hy)
      rwa [show l + ((i + 1 : Nat) : Int) = l + 1 + i by push_cast; omega, show l + ((j + 1 : Nat) : Int) = l + 1 + j by push_cast; omega] at this
    · obtain ⟨j, x, hx, hm⟩ := allToks_mem want ls (l + 1) u hu
      refine h2 0 (j + 1) s x (by omega) rfl (by simpa using hx) t (by simpa using ht) u ?_
      rwa [show l + ((j + 1 : Nat) : Int) = l + 1 + j by push_cast; omega]
theorem bytesM_take_mono (l : List (List UInt8)) {i j : Nat} {x : List UInt8} (h : i < j) (hx : l[i]? = some x) : bytesM (l.take i) + x.length + 1 ≤ bytesM (l.take j) := by
  have h1 : l.take (i + 1) = (l.take j).take (i + 1) := by rw [List.take_take]; congr 1; omega
  have h2 := bytesM_take_le (l.take j) (i + 1)
  rw [← h1, bytesM_take_succ hx] at h2
  omega
/-- Where a token of the text stands. -/
theorem tok_at {want : Int → Bool} {s : List UInt8} {j : Nat} {x : List UInt8} (hx : (splitL 10 s)[j]? = some x) (he : errOf (scanM x) = none) {p : Pc} (hp : p ∈ scanM x) :
    ∃ n : Nat, offsetM s (1 + (j : Int)) (1 + p.a) = ((n : Int), 0) ∧ (n : Int) = bytesM ((splitL 10 s).take j) + p.a ∧ p.s <+: s.drop n ∧ p.s ≠ [] ∧ n + p.s.length ≤ s.length ∧ p.a + (p.s.length : Int) ≤ x.length ∧ 0 ≤ p.a := by
  obtain ⟨m, h1, h2, h3⟩ := line_at s j x hx
  obtain ⟨n, k1, k2, k3, k4⟩ := scan_text 0 x p hp (errOf_none he p hp)
  have hj := (List.getElem?_eq_some_iff.1 hx).1
  simp only [Nat.zero_add] at k1
  refine ⟨m + n, ?_, by rw [k1, ← h1]; push_cast; rfl, ?_, k3, by omega, by rw [k1]; omega, by omega⟩
  · unfold offsetM
    rw [show (1 + (j : Int) - 1).toNat = j by omega, hx, Option.getD_some, if_neg (by omega), ← h1, k1]
    congr 1
    push_cast
    omega
  · obtain ⟨r, hr⟩ := h2
    rw [← List.drop_drop, ← hr, List.drop_append_of_le_length (by omega)]
    exact k2.trans (List.prefix_append _ _)
theorem tok_of {want : Int → Bool} {s : List UInt8} (h0 : firstErr 1 (splitL 10 s) = none) {t : Tok} (ht : t ∈ allToks want 1 (splitL 10 s)) :
    ∃ n : Nat, offsetM s t.l t.c = ((n : Int), 0) ∧ t.s <+: s.drop n ∧ t.s ≠ [] ∧ n + t.s.length ≤ s.length := by
  obtain ⟨j, x, hx, hm⟩ := allToks_mem want _ 1 t ht
  obtain ⟨_, p, hp, _, rfl⟩ := keptOf_line hm
  obtain ⟨n, h1, _, h3, h4, h5, _⟩ := tok_at (want := want) hx (firstErr_none h0 x (List.mem_of_getElem? hx)) hp
  exact ⟨n, h1, h3, h4, h5⟩
theorem toks_order {want : Int → Bool} {s : List UInt8} (h0 : firstErr 1 (splitL 10 s) = none) :
    (allToks want 1 (splitL 10 s)).Pairwise fun t u => (offsetM s t.l t.c).1 + (t.s.length : Int) ≤ (offsetM s u.l u.c).1 ∧ (t.l < u.l ∨ t.l = u.l ∧ t.c < u.c) := by
  refine allToks_pairwise _ _ (fun j x hx => ?_) (fun i j x y hij hx hy t ht u hu => ?_)
  · have he := firstErr_none h0 x (List.mem_of_getElem? hx)
    unfold keptOf
    rw [List.pairwise_map]
    refine List.Pairwise.imp_of_mem ?_ ((scan_sorted 0 x).filter _)
    intro p q hp hq hpq
    obtain ⟨n, h1, h2, _⟩ := tok_at (want := want) hx he (List.mem_filter.1 hp).1
    obtain ⟨m, k1, k2, _⟩ := tok_at (want := want) hx he (List.mem_filter.1 hq).1
    simp only [tokOf, h1, k1]
    refine ⟨by omega, .inr ⟨trivial, by omega⟩⟩
  · obtain ⟨_, p, hp, _, rfl⟩ := keptOf_line ht
    obtain ⟨_, q, hq, _, rfl⟩ := keptOf_line hu
    obtain ⟨n, h1, h2, _, _, _, h6, _⟩ := tok_at (want := want) hx (firstErr_none h0 x (List.mem_of_getElem? hx)) hp
    obtain ⟨m, k1, k2, _, _, _, _, k7⟩ := tok_at (want := want) hy (firstErr_none h0 y (List.mem_of_getElem? hy)) hq
    have := bytesM_take_mono (splitL 10 s) hij hx
    simp only [tokOf, h1, k1]
    refine ⟨by omega, .inl (by omega)⟩
/-- The tokens of a text stand in it, in order. -/
theorem okToks_of {s : List UInt8} : ∀ (l : List Tok) (o : Option Tok), (∀ t ∈ l, (offsetM s t.l t.c).2 = 0) → l.Pairwise (fun t u => t.l < u.l ∨ t.l = u.l ∧ t.c < u.c) →
    (∀ p, o = some p → ∀ t ∈ l, p.l < t.l ∨ p.l = t.l ∧ p.c < t.c) → okToks s o l = true
  | [], _, _, _, _ => rfl
  | t :: l, o, h1, h2, h3 => by
    simp only [okToks, Bool.and_eq_true]
    refine ⟨?_, okToks_of l (some t) (fun u hu => h1 u (by simp [hu])) (List.pairwise_cons.1 h2).2 (fun p hp u hu => by cases hp; exact (List.pairwise_cons.1 h2).1 u hu)⟩
    have e := h1 t (by simp)
    cases o with
    | none => simp [okAt, e]
    | some p =>
      have hp := h3 p rfl t (by simp)
      simp only [okAt, e, decide_true, Bool.true_and, Bool.not_eq_true', Bool.or_eq_false_iff, decide_eq_false_iff_not]
      refine ⟨by omega, ?_⟩
      unfold compareM
      rcases hp with hp | ⟨hp, hq⟩
      · rw [show cmpM p.l t.l = -1 by unfold cmpM; rw [if_pos hp]]; simp
      · rw [show cmpM p.l t.l = 0 by unfold cmpM; rw [if_neg (by omega), if_neg (by omega)], show cmpM p.c t.c = -1 by unfold cmpM; rw [if_pos hq]]; simp
theorem okToks_own {s : List UInt8} (h0 : firstErr 1 (splitL 10 s) = none) : okToks s none (allToks isTok 1 (splitL 10 s)) = true :=
  okToks_of _ _ (fun t ht => by obtain ⟨n, h1, _⟩ := tok_of h0 ht; rw [h1]) ((toks_order h0).imp fun h => h.2) (fun p hp => by cases hp)

/-! ### A patch of a text's own tokens -/
theorem filter_allToks_lt {want : Int → Bool} (f : Int) (ls : List (List UInt8)) (l : Int) (h : l + ls.length ≤ f) : (allToks want l ls).filter (fun y => decide (y.l < f)) = allToks want l ls := by
  rw [List.filter_eq_self]
  intro t ht
  obtain ⟨j, x, hx, hm⟩ := allToks_mem want ls l t ht
  have := (List.getElem?_eq_some_iff.1 hx).1
  rw [decide_eq_true_eq, (keptOf_line hm).1]
  omega
theorem allToks_lines {want : Int → Bool} {ls : List (List UInt8)} {l : Int} {t : Tok} (ht : t ∈ allToks want l ls) : l ≤ t.l ∧ t.l < l + ls.length := by
  obtain ⟨j, x, hx, hm⟩ := allToks_mem want ls l t ht
  have := (List.getElem?_eq_some_iff.1 hx).1
  rw [(keptOf_line hm).1]
  omega
theorem patch_own {s : List UInt8} (hs : s.length ≤ 3000) {a b : Int} {x : List UInt8} (hx : x.length ≤ 3000) (he : (editM s a b x).2 = 0) (h0 : firstErr 1 (splitL 10 s) = none) :
    ∃ n : Int, 0 ≤ n ∧ n ≤ (tokensM (editM s a b x).1).1.length ∧ patchM (allToks isTok 1 (splitL 10 s)) s a b x = ((tokensM (editM s a b x).1).1, n, ((tokensM (editM s a b x).1).2.1, (tokensM (editM s a b x).1).2.2.1), (tokensM (editM s a b x).1).2.2.2) := by
  have hab : 0 ≤ a ∧ a ≤ b ∧ b ≤ s.length := by
    unfold editM at he
    split at he
    · cases he
    · omega
  obtain ⟨a, rfl⟩ := Int.eq_ofNat_of_zero_le hab.1
  obtain ⟨b, rfl⟩ := Int.eq_ofNat_of_zero_le (show 0 ≤ b by omega)
  have hed : (editM s a b x).1 = s.take a ++ x ++ s.drop b := by
    unfold editM at he ⊢
    split at he
    · cases he
    · rename_i h1
      split at he
      · cases he
      · rename_i h2
        rw [if_neg h1, if_neg h2]; rfl
  have hlen : (s.take a ++ x ++ s.drop b).length ≤ 6000 := by
    simp only [List.length_append, List.length_take, List.length_drop]; omega
  unfold patchM
  rw [if_neg (by simp [he]), okToks_own h0, if_neg (by simp)]
  rw [hed, tokensM_small hlen]
  -- the old text, the new one, by lines
  have hs3 : s = s.take a ++ ((s.drop a).take (b - a) ++ s.drop b) := by
    rw [show s.drop b = (s.drop a).drop (b - a) by rw [List.drop_drop]; congr 1; omega, List.take_append_drop, List.take_append_drop]
  generalize hu : s.take a = u at *
  generalize hw : (s.drop a).take (b - a) = w at *
  generalize hv : s.drop b = v at *
  have hul : u.length = a := by rw [← hu, List.length_take_of_le (by omega)]
  have hwl : w.length = b - a := by rw [← hw, List.length_take_of_le (by rw [List.length_drop]; omega)]
  have hold : splitL 10 s = headLns u ++ (splitL 10 (lastLn u ++ w ++ headLn v) ++ tailLns v) := by
    rw [hs3, splitL_append, ← List.append_assoc (lastLn u), splitL_behind]
  have hnew : splitL 10 (u ++ x ++ v) = headLns u ++ (splitL 10 (lastLn u ++ x ++ headLn v) ++ tailLns v) := by
    rw [List.append_assoc, splitL_append, ← List.append_assoc (lastLn u), splitL_behind]
  have c0 : ∀ z : List UInt8, (lastLn u ++ z ++ headLn v).count 10 = z.count 10 := fun z => by
    rw [List.count_append, List.count_append, List.count_eq_zero.2 (lastLn_no u), List.count_eq_zero.2 (headLn_no v)]; omega
  have hB : (splitL 10 (lastLn u ++ w ++ headLn v)).length = w.count 10 + 1 := by rw [splitL_length, c0]
  have hB' : (splitL 10 (lastLn u ++ x ++ headLn v)).length = x.count 10 + 1 := by rw [splitL_length, c0]
  have hpa : (placeOfM s a).1.1 = 1 + ((headLns u).length : Int) := by
    unfold placeOfM
    rw [if_neg (by omega), Int.toNat_natCast, hu, headLns_length]
  have hpb : (placeOfM s b).1.1 = ((headLns u).length : Int) + (w.count 10 + 1 : Nat) := by
    have : s.take b = u ++ w := by
      rw [← hu, ← hw, ← List.take_add]; congr 1; omega
    unfold placeOfM
    rw [if_neg (by omega), Int.toNat_natCast, this, List.count_append, headLns_length]
    push_cast
    omega
  have hpe : (placeOfM (u ++ x ++ v) ((a : Int) + x.length)).1.1 = ((headLns u).length : Int) + (x.count 10 + 1 : Nat) := by
    have : (u ++ x ++ v).take ((a : Int) + x.length).toNat = u ++ x := by
      rw [List.take_append_of_le_length (by rw [List.length_append]; omega), List.take_of_length_le (by rw [List.length_append]; omega)]
    unfold placeOfM
    rw [if_neg (by simp only [List.length_append]; push_cast; omega), this, List.count_append, headLns_length]
    push_cast
    omega
  rw [hpa, hpb, hpe, hnew]
  generalize headLns u = A at *
  generalize splitL 10 (lastLn u ++ w ++ headLn v) = B at *
  generalize splitL 10 (lastLn u ++ x ++ headLn v) = B' at *
  generalize tailLns v = C at *
  have e1 : ((A.length : Int) + (x.count 10 + 1 : Nat)).toNat = A.length + B'.length := by omega
  have e2 : (1 + (A.length : Int) - 1).toNat = A.length := by omega
  have e3 : ((A ++ (B' ++ C)).take (A.length + B'.length)).drop A.length = B' := by
    rw [← List.append_assoc, List.take_append_of_le_length (by simp), List.take_of_length_le (by simp)]; simp
  rw [e1, e2, e3, hold]
  rw [hold, firstErr_append, Option.or_eq_none_iff, firstErr_append, Option.or_eq_none_iff] at h0
  obtain ⟨g1, g2, g3⟩ := h0
  have g3' : firstErr (1 + (A.length : Int) + B'.length) C = none := by
    have := firstErr_shift ((B'.length : Int) - B.length) C (1 + A.length + B.length)
    rw [g3, show 1 + (A.length : Int) + B.length + (B'.length - B.length) = 1 + A.length + B'.length by omega] at this
    exact this
  rw [readM_eq, readM_eq, firstErr_append, g1, Option.none_or, firstErr_append, g3', Option.or_none]
  cases hf : firstErr (1 + (A.length : Int)) B' with
  | some e =>
    have hne : e.2.2 ≠ 0 := by
      have : ∀ (ls : List (List UInt8)) (l : Int) e, firstErr l ls = some e → e.2.2 ≠ 0 := by
        intro ls
        induction ls with
        | nil => intro l e h; cases h
        | cons y ls ih =>
          intro l e h
          simp only [firstErr] at h
          cases hp : errOf (scanM y) with
          | none => rw [hp] at h; exact ih _ _ h
          | some p =>
            rw [hp] at h
            cases h
            have := List.find?_some hp
            simpa using this
      exact this _ _ _ hf
    exact ⟨0, Int.le_refl _, by simp, by simp [patchT, hne]⟩
  | none =>
    simp only [List.nil_append]
    have k1 : (allToks isTok 1 (A ++ (B ++ C))).filter (fun y => decide (y.l < 1 + (A.length : Int))) = allToks isTok 1 A := by
      rw [allToks_append, List.filter_append, filter_allToks_lt _ _ _ (by omega)]
      rw [List.filter_eq_nil_iff.2, List.append_nil]
      intro t ht
      have := allToks_lines ht
      simp; omega
    have k2 : ((allToks isTok 1 (A ++ (B ++ C))).filter (fun y => !decide (y.l < 1 + (A.length : Int)) && decide ((A.length : Int) + (w.count 10 + 1 : Nat) < y.l))).map (shiftT ((A.length : Int) + (x.count 10 + 1 : Nat) - ((A.length : Int) + (w.count 10 + 1 : Nat)))) = allToks isTok (1 + (A.length : Int) + B'.length) C := by
      obtain ⟨P, hP⟩ : ∃ P : Tok → Bool, P = fun y => !decide (y.l < 1 + (A.length : Int)) && decide ((A.length : Int) + (w.count 10 + 1 : Nat) < y.l) := ⟨_, rfl⟩
      rw [← hP]
      have f1 : (allToks isTok 1 A).filter P = [] := List.filter_eq_nil_iff.2 fun t ht => by
        have := allToks_lines ht
        rw [hP]; simp; omega
      have f2 : (allToks isTok (1 + (A.length : Int)) B).filter P = [] := List.filter_eq_nil_iff.2 fun t ht => by
        have := allToks_lines ht
        rw [hP]; simp; omega
      have f3 : (allToks isTok (1 + (A.length : Int) + B.length) C).filter P = allToks isTok (1 + (A.length : Int) + B.length) C := List.filter_eq_self.2 fun t ht => by
        have := allToks_lines ht
        rw [hP]; simp; omega
      rw [allToks_append, allToks_append, List.filter_append, List.filter_append, f1, f2, f3, List.nil_append, List.nil_append, ← allToks_shift]
      congr 1
      omega
    have hnl : (allToks isTok 1 (A ++ (B' ++ C))).length ≤ 6000 := by
      have h1 := allToks_len isTok (A ++ (B' ++ C)) 1
      have h2 := splitL_sum 10 (u ++ x ++ v)
      rw [hnew] at h2
      omega
    have hall : allToks isTok 1 A ++ (allToks isTok (1 + (A.length : Int)) B' ++ allToks isTok (1 + (A.length : Int) + B'.length) C) = allToks isTok 1 (A ++ (B' ++ C)) := by
      rw [allToks_append, allToks_append]
    refine ⟨(allToks isTok (1 + (A.length : Int)) B').length, by omega, ?_, ?_⟩
    · rw [← hall]
      simp only [List.length_append]
      omega
    · unfold patchT
      simp only [ne_eq, not_true, if_false]
      rw [k1, k2, hall, if_neg (by omega)]
end Go.Plane
end
section
set_option linter.unusedVariables false
set_option linter.unusedSimpArgs false
set_option maxRecDepth 100000
set_option maxHeartbeats 4000000
namespace Go.Plane
open Go Go.Proofs
attribute [local irreducible] wops wio wic wdt wdb onOut
def setL (n : Int) (t : Tok) : Tok := { t with l := n }
theorem keptOf_set (want : Int → Bool) (l n : Int) (ps : List Pc) : (keptOf want l ps).map (setL n) = keptOf want n ps := by
  simp only [keptOf, List.map_map]
  rfl
theorem same_self (l : List Tok) (h : l.length ≤ 4294967296) : F Γd 24 [.d (.slice (toksD l)), .d (.slice (toksD l))] (.d (.bool true)) := by
  have := r_SameTokens l l h h
  simpa using this
/-- **LexLines.** -/
theorem law_Lines (s : List UInt8) (a b : Int) (x : List UInt8) : F Γd 4 [.d (.str s), .agg [.int .i64 a, .int .i64 b, .str x]] (.d (.bool true)) := by
  refine fn_of c4 rfl (by simp only [Env.of, List.zipIdx, List.map]; rfl) ?_
  have hsan := f_sanity
  by_cases hs : 400 < s.length
  · repeat' (first | ((with_reducible refine wcm ?_); first | refine cF (hsan) ?_) | refine dr ?_ | (refine ds ?_ ?_ <;> intro hb) | ((with_reducible refine dbm ?_); first | exact db_nil | refine dbc ?_ ?_) | ((with_reducible refine natle ?_); first | assumption | omega | (simp; omega)))
    all_goals (simp; done)
  by_cases hx : 100 < x.length
  · repeat' (first | ((with_reducible refine wcm ?_); first | refine cF (hsan) ?_) | refine dr ?_ | (refine ds ?_ ?_ <;> intro hb) | ((with_reducible refine dbm ?_); first | exact db_nil | refine dbc ?_ ?_) | ((with_reducible refine natle ?_); first | assumption | omega | (simp; omega)))
    all_goals (simp; done)
  have hT := f_Tokens s (by omega)
  have hSp := F_Split s 10 (by omega)
  have hln := strsD_length (splitL 10 s)
  have hcnt : (splitL 10 s).length ≤ s.length + 1 := by rw [splitL_length]; have := List.count_le_length (a := (10 : UInt8)) (l := s); omega
  have hTe : tokensM s = match firstErr 1 (splitL 10 s) with
    | some e => ([], e)
    | none => (allToks isTok 1 (splitL 10 s), 0, 0, 0) := by
    rw [tokensM_small (by omega), readM_eq]; rfl
  have hTl : (tokensM s).1.length ≤ 400 := by
    rw [tokensM_small (by omega)]
    have h1 := readM_len isTok (splitL 10 s) 1 []
    have h2 := splitL_sum 10 s
    simp only [List.length_nil] at h1
    omega
  generalize hTT : tokensM s = T at *
  obtain ⟨tl, t1, t2, t3⟩ := T
  simp only at hTl
  have htl := toksD_length tl
  simp only [readP] at hT
  repeat' (first | ((with_reducible refine wcm ?_); first | refine cF (hT) ?_ | refine cF (hSp) ?_) | refine dr ?_ | (refine ds ?_ ?_ <;> intro hb) | ((with_reducible refine dbm ?_); first | exact db_nil | refine dbc ?_ ?_) | ((with_reducible refine natle ?_); first | assumption | omega | (simp; omega)))
  refine LP_for (splitL 10 s) (fun i (acc : List Tok) => [(0, .d (.str s)), (3, .ptr 0 0), (5, .d (.slice (toksD tl))), (6, .ptr 1 0), (7, .d (.int .i64 t3)), (8, .lref 2 acc.length), (42, .d (.slice (strsD (splitL 10 s)))), (43, .d (.int .i64 (splitL 10 s).length)), (44, .d (.int .i64 i))])
    (fun _ acc => [.box 25 [.d (.int .i64 a), .d (.int .i64 b), .d (.str x)], .box 23 [.d (.int .i64 t1), .d (.int .i64 t2)], .lst (57, 4) (toksD acc)])
    (fun i acc => acc = allToks isTok 1 ((splitL 10 s).take i) ∧ firstErr 1 ((splitL 10 s).take i) = none) [] ?_ ?_ ⟨rfl, rfl⟩ ?_ ?_
  · (first | (simp [Env.shr, Env.get, PV.exp, PV.ids, PV.ids.idsL]; done) | simp [Env.shr, Env.get, PV.exp, PV.ids, PV.ids.idsL, *])
  · first | rfl | simp [shrink, Ent.exp, PV.exp, PV.ids, toksD]
  · rintro i y acc hy hi ⟨hacc, herr⟩ ih
    have hr := strsD_at hy
    have hyl : y.length ≤ s.length := splitL_le 10 s y (List.mem_of_getElem? hy)
    have hno := splitL_no 10 s y (List.mem_of_getElem? hy)
    have hYT := f_Tokens y (by omega)
    rw [tokensM_line hno (by omega)] at hYT
    have htk : (splitL 10 s).take (i + 1) = (splitL 10 s).take i ++ [y] := by rw [List.take_add_one, hy]; rfl
    have hti : ((splitL 10 s).take i).length = i := by rw [List.length_take]; omega
    have haccl : acc.length ≤ 400 := by
      rw [hacc]
      have h1 := allToks_len isTok ((splitL 10 s).take i) 1
      have h2 : (((splitL 10 s).take i).map List.length).sum ≤ ((splitL 10 s).map List.length).sum := by
        conv => rhs; rw [← List.take_append_drop i (splitL 10 s), List.map_append, List.sum_append]
        omega
      have h3 := splitL_sum 10 s
      omega
    cases hey : errOf (scanM y) with
    | some p =>
      have hfe : firstErr 1 (splitL 10 s) = some (1 + (i : Int), 1 + p.a, p.e) := by
        rw [← List.take_append_drop i (splitL 10 s), firstErr_append, herr, Option.none_or, hti, List.drop_eq_getElem_cons hi]
        have : (splitL 10 s)[i] = y := by have := List.getElem?_eq_getElem hi; rw [hy] at this; exact (Option.some.inj this).symm
        simp only [firstErr, this, hey]
      have hf1 : firstErr 1 [y] = some (1, 1 + p.a, p.e) := by simp only [firstErr, hey]
      rw [hfe] at hTe
      rw [hf1] at hYT
      simp only [Prod.mk.injEq] at hTe
      obtain ⟨rfl, rfl, rfl, rfl⟩ := hTe
      have hpe : p.e ≠ 0 := by
        have := List.find?_some hey
        simpa using this
      have h1i : (1 : Int) + i = i + 1 := by omega
      simp only [readP] at hYT
      clear ih hfe hf1 herr hacc htk hey
      repeat' (first | ((with_reducible refine wcm ?_); first | refine cF (hYT) ?_ | refine cF (hsan) ?_) | refine dr ?_ | (refine ds ?_ ?_ <;> intro hb) | ((with_reducible refine dbm ?_); first | exact db_nil | refine dbc ?_ ?_) | ((with_reducible refine natle ?_); first | assumption | omega | (simp; omega)))
      all_goals (simp [eqDs, D.eqv, h1i]; done)
    | none =>
      have hf1 : firstErr 1 [y] = none := by simp only [firstErr, hey]
      rw [hf1] at hYT
      simp only [readP, allToks, List.append_nil] at hYT
      have hml := keptOf_len isTok 1 (scanM y)
      have hsl := scanM_len y
      have hset := keptOf_set isTok 1 ((i : Int) + 1) (scanM y)
      have ih := ih (acc ++ keptOf isTok ((i : Int) + 1) (scanM y)) ⟨by rw [htk, allToks_append, ← hacc, hti]; simp [allToks, Int.add_comm], by rw [htk, firstErr_append, herr, hti]; simp only [firstErr, hey]; rfl⟩
      clear hf1 herr hacc htk hey hTe
      generalize keptOf isTok 1 (scanM y) = m at *
      have hmln := toksD_length m
      repeat' (first | ((with_reducible refine wcm ?_); first | refine cF (hYT) ?_) | refine dr ?_ | (refine ds ?_ ?_ <;> intro hb) | ((with_reducible refine dbm ?_); first | exact db_nil | refine dbc ?_ ?_) | ((with_reducible refine natle ?_); first | assumption | omega | (simp; omega)))
      refine LP_for m (fun k (c : List Tok) => [(0, .d (.str s)), (3, .ptr 0 0), (5, .d (.slice (toksD tl))), (6, .ptr 1 0), (7, .d (.int .i64 t3)), (8, .lref 2 c.length), (9, .d (.int .i64 i)), (42, .d (.slice (strsD (splitL 10 s)))), (43, .d (.int .i64 (splitL 10 s).length)), (44, .d (.int .i64 i)), (72, .d (.slice (toksD m))), (73, .d (.int .i64 m.length)), (74, .d (.int .i64 k))])
        (fun _ c => [.box 25 [.d (.int .i64 a), .d (.int .i64 b), .d (.str x)], .box 23 [.d (.int .i64 t1), .d (.int .i64 t2)], .lst (57, 4) (toksD c), .box 23 [.d (.int .i64 0), .d (.int .i64 0)]])
        (fun k c => c = acc ++ (m.take k).map (setL ((i : Int) + 1))) acc ?_ ?_ (by simp) ?_ ?_
      · (first | (simp [Env.shr, Env.get, PV.exp, PV.ids, PV.ids.idsL]; done) | simp [Env.shr, Env.get, PV.exp, PV.ids, PV.ids.idsL, *])
      · first | rfl | simp [shrink, Ent.exp, PV.exp, PV.ids, toksD]
      · rintro k t c ht hk hc ih2
        have hrt := toksD_at ht
        have hcl : c.length ≤ 800 := by rw [hc]; simp; omega
        have hcd := toksD_length c
        have hcd2 := toksD_len c
        have ih2 := ih2 (c ++ [setL ((i : Int) + 1) t]) (by rw [List.take_add_one, ht, hc]; simp)
        clear hc ih
        repeat' (first | refine dr ?_ | (refine ds ?_ ?_ <;> intro hb) | ((with_reducible refine dbm ?_); first | exact db_nil | refine dbc ?_ ?_) | ((with_reducible refine natle ?_); first | assumption | omega | (simp; omega)))
        refine LP_at ?_ ?_ ih2
        · (first | (simp [Env.shr, Env.get, PV.exp, PV.ids, PV.ids.idsL]; done) | simp [Env.shr, Env.get, PV.exp, PV.ids, PV.ids.idsL, *])
        · simp [shrink, Ent.exp, PV.exp, PV.ids, toksD, setL]
      · rintro c hc
        rw [List.take_length, hset] at hc
        subst hc
        repeat' (first | refine dr ?_ | (refine ds ?_ ?_ <;> intro hb) | ((with_reducible refine dbm ?_); first | exact db_nil | refine dbc ?_ ?_) | ((with_reducible refine natle ?_); first | assumption | omega | (simp; omega)))
        refine LP_at ?_ ?_ ih
        · (first | (simp [Env.shr, Env.get, PV.exp, PV.ids, PV.ids.idsL]; done) | simp [Env.shr, Env.get, PV.exp, PV.ids, PV.ids.idsL, *])
        · simp [shrink, Ent.exp, PV.exp, PV.ids, toksD]
  · rintro acc ⟨hacc, herr⟩
    rw [List.take_length] at hacc herr
    rw [herr] at hTe
    simp only [Prod.mk.injEq] at hTe
    obtain ⟨rfl, rfl, rfl, rfl⟩ := hTe
    subst hacc
    have hsame := same_self (allToks isTok 1 (splitL 10 s)) (by omega)
    have hE := f_Edit s a b x (by omega) (by omega)
    have htake : (toksD (allToks isTok 1 (splitL 10 s))).take (allToks isTok 1 (splitL 10 s)).length = toksD (allToks isTok 1 (splitL 10 s)) := List.take_of_length_le (by rw [toksD_length]; exact Nat.le_refl _)
    by_cases he : (editM s a b x).2 = 0
    case neg =>
      generalize editM s a b x = e at *
      repeat' (first | ((with_reducible refine wcm ?_); first | refine cF (hsame) ?_ | refine cF (hE) ?_ | refine cF (hsan) ?_) | refine dr ?_ | (refine ds ?_ ?_ <;> intro hb) | ((with_reducible refine dbm ?_); first | exact db_nil | refine dbc ?_ ?_) | ((with_reducible refine natle ?_); first | assumption | omega | (simp; omega)))
      all_goals (simp; done)
    have hnl : (editM s a b x).1.length ≤ 500 := by
      unfold editM at he ⊢
      split at he
      · cases he
      · rename_i h1
        split at he
        · cases he
        · rename_i h2
          rw [if_neg h1, if_neg h2]
          simp only [List.length_append, List.length_take, List.length_drop]
          omega
    have hN := f_Tokens (editM s a b x).1 (by omega)
    have hP := f_Patch (allToks isTok 1 (splitL 10 s)) s a b x (by omega) (by omega) (by omega)
    obtain ⟨n, hn1, hn2, hpat⟩ := patch_own (s := s) (by omega) (a := a) (b := b) (x := x) (by omega) he herr
    rw [hpat] at hP
    have hNl : (tokensM (editM s a b x).1).1.length ≤ 6000 := by
      rw [tokensM_small (by omega)]
      have h1 := readM_len isTok (splitL 10 (editM s a b x).1) 1 []
      have h2 := splitL_sum 10 (editM s a b x).1
      simp only [List.length_nil] at h1
      omega
    have hsame2 := same_self (tokensM (editM s a b x).1).1 (by omega)
    have hNd := toksD_length (tokensM (editM s a b x).1).1
    clear hpat hnl
    generalize tokensM (editM s a b x).1 = N at *
    obtain ⟨nl, n1, n2, n3⟩ := N
    simp only [readP, patchP] at hN hP hn2 hsame2 hNl hNd
    generalize editM s a b x = e at *
    repeat' (first | ((with_reducible refine wcm ?_); first | refine cF (hsame) ?_ | refine cF (hE) ?_ | refine cF (hN) ?_ | refine cF (hP) ?_ | refine cF (hsame2) ?_ | refine cF (hsan) ?_) | refine dr ?_ | (refine ds ?_ ?_ <;> intro hb) | ((with_reducible refine dbm ?_); first | exact db_nil | refine dbc ?_ ?_) | ((with_reducible refine natle ?_); first | assumption | omega | (simp; omega)))
    all_goals (simp [eqDs, D.eqv, *]; done)
end Go.Plane
end
section
set_option linter.unusedVariables false
set_option linter.unusedSimpArgs false
set_option maxRecDepth 100000
set_option maxHeartbeats 4000000
namespace Go.Plane
open Go Go.Proofs
attribute [local irreducible] wops wio wic wdt wdb onOut
theorem tokensM_eq {s : List UInt8} (h : s.length ≤ 6000) : tokensM s = match firstErr 1 (splitL 10 s) with
    | some e => ([], e)
    | none => (allToks isTok 1 (splitL 10 s), 0, 0, 0) := by
  rw [tokensM_small h, readM_eq]; rfl
theorem tokensM_len {s : List UInt8} (h : s.length ≤ 6000) : (tokensM s).1.length ≤ s.length := by
  rw [tokensM_small h]
  have h1 := readM_len isTok (splitL 10 s) 1 []
  have h2 := splitL_sum 10 s
  simp only [List.length_nil] at h1
  omega
theorem firstErr_ne : ∀ (ls : List (List UInt8)) (l : Int) (e : Int × Int × Int), firstErr l ls = some e → e.2.2 ≠ 0
  | [], _, _, h => by cases h
  | y :: ls, l, e, h => by
    simp only [firstErr] at h
    cases hp : errOf (scanM y) with
    | none => rw [hp] at h; exact firstErr_ne ls _ _ h
    | some p =>
      rw [hp] at h
      cases h
      have := List.find?_some hp
      simpa using this
/-- **LexStands.** -/
theorem law_Stands (s : List UInt8) : F Γd 5 [.d (.str s)] (.d (.bool true)) := by
  refine fn_of c5 rfl (by simp only [Env.of, List.zipIdx, List.map]; rfl) ?_
  have hsan := f_sanity
  by_cases hs : 400 < s.length
  · repeat' (first | ((with_reducible refine wcm ?_); first | refine cF (hsan) ?_) | refine dr ?_ | (refine ds ?_ ?_ <;> intro hb) | ((with_reducible refine dbm ?_); first | exact db_nil | refine dbc ?_ ?_) | ((with_reducible refine natle ?_); first | assumption | omega | (simp; omega)))
    all_goals (simp; done)
  have hT := f_Tokens s (by omega)
  have hTe := tokensM_eq (s := s) (by omega)
  have hTl := tokensM_len (s := s) (by omega)
  generalize tokensM s = T at *
  obtain ⟨tl, t1, t2, t3⟩ := T
  simp only at hTl
  have htl := toksD_length tl
  simp only [readP] at hT
  repeat' (first | refine dr ?_ | (refine ds ?_ ?_ <;> intro hb) | ((with_reducible refine dbm ?_); first | exact db_nil | refine dbc ?_ ?_) | ((with_reducible refine natle ?_); first | assumption | omega | (simp; omega)))
  refine LP_ind (α := Nat) (fun n => s.length + 1 - n) (fun n => [(0, .d (.str s)), (3, .d (.int .i64 n))]) (fun _ => []) (fun n => n ≤ s.length + 1) 0 ?_ rfl (by omega) ?_
  · (first | (simp [Env.shr, Env.get, PV.exp, PV.ids, PV.ids.idsL]; done) | simp [Env.shr, Env.get, PV.exp, PV.ids, PV.ids.idsL, *])
  intro n hn ih
  apply LP_go
  by_cases hle : n ≤ s.length
  · have hP := f_PlaceOf s n (by omega)
    have hop := offset_place hle
    rw [placeOfM_eq hle] at hP hop
    simp only [placeV] at hP
    have hO := f_Offset s (1 + ((headLns (s.take n)).length : Int)) (1 + ((lastLn (s.take n)).length : Int)) (by omega)
    rw [hop] at hO
    simp only [pairI] at hO
    have ih := ih (n + 1) (by omega) (by omega)
    clear hop hT hTe
    generalize 1 + ((headLns (s.take n)).length : Int) = pl at *
    generalize 1 + ((lastLn (s.take n)).length : Int) = pc at *
    repeat' (first | ((with_reducible refine wcm ?_); first | refine cF (hP) ?_ | refine cF (hO) ?_) | refine dr ?_ | (refine ds ?_ ?_ <;> intro hb) | ((with_reducible refine dbm ?_); first | exact db_nil | refine dbc ?_ ?_) | ((with_reducible refine natle ?_); first | assumption | omega | (simp; omega)))
    refine LP_at ?_ ?_ ih
    · (first | (simp [Env.shr, Env.get, PV.exp, PV.ids, PV.ids.idsL]; done) | simp [Env.shr, Env.get, PV.exp, PV.ids, PV.ids.idsL, *])
    · simp [shrink, Ent.exp, PV.exp, PV.ids]
  clear ih
  cases hfe : firstErr 1 (splitL 10 s) with
  | some e =>
    rw [hfe] at hTe
    simp only [Prod.mk.injEq] at hTe
    have hne := firstErr_ne _ _ _ hfe
    rw [← hTe.2] at hne
    simp only at hne
    clear hTe hfe
    repeat' (first | ((with_reducible refine wcm ?_); first | refine cF (hT) ?_ | refine cF (hsan) ?_) | refine dr ?_ | (refine ds ?_ ?_ <;> intro hb) | ((with_reducible refine dbm ?_); first | exact db_nil | refine dbc ?_ ?_) | ((with_reducible refine natle ?_); first | assumption | omega | (simp; omega)))
    all_goals (simp; done)
  | none =>
    rw [hfe] at hTe
    simp only [Prod.mk.injEq] at hTe
    obtain ⟨rfl, rfl, rfl, rfl⟩ := hTe
    have hat : ∀ t ∈ allToks isTok 1 (splitL 10 s), ∃ n : Nat, offsetM s t.l t.c = ((n : Int), 0) ∧ t.s <+: s.drop n ∧ t.s ≠ [] ∧ n + t.s.length ≤ s.length := fun t ht => tok_of hfe ht
    have hord := toks_order (want := isTok) hfe
    generalize allToks isTok 1 (splitL 10 s) = l at *
    clear hfe
    repeat' (first | ((with_reducible refine wcm ?_); first | refine cF (hT) ?_) | refine dr ?_ | (refine ds ?_ ?_ <;> intro hb) | ((with_reducible refine dbm ?_); first | exact db_nil | refine dbc ?_ ?_) | ((with_reducible refine natle ?_); first | assumption | omega | (simp; omega)))
    refine LP_for l (fun i (e : Nat) => [(0, .d (.str s)), (11, .d (.int .i64 e)), (58, .d (.slice (toksD l))), (59, .d (.int .i64 l.length)), (60, .d (.int .i64 i))])
      (fun _ _ => [.box 23 [.d (.int .i64 0), .d (.int .i64 0)]]) (fun i e => e ≤ s.length ∧ ∀ t ∈ l.drop i, (e : Int) ≤ (offsetM s t.l t.c).1) 0 ?_ ?_ ⟨Nat.zero_le _, fun t ht => by obtain ⟨n, h1, _⟩ := hat t (by simpa using ht); rw [h1]; simp⟩ ?_ ?_
    · (first | (simp [Env.shr, Env.get, PV.exp, PV.ids, PV.ids.idsL]; done) | simp [Env.shr, Env.get, PV.exp, PV.ids, PV.ids.idsL, *])
    · first | rfl | simp [shrink, Ent.exp, PV.exp, PV.ids, toksD]
    · rintro i t e ht hi ⟨he, hI⟩ ih
      have hr := toksD_at ht
      obtain ⟨m, h1, h2, h3, h4⟩ := hat t (List.mem_of_getElem? ht)
      have hdr : l.drop i = t :: l.drop (i + 1) := by
        rw [List.drop_eq_getElem_cons hi]
        have : l[i] = t := by have := List.getElem?_eq_getElem hi; rw [ht] at this; exact (Option.some.inj this).symm
        rw [this]
      have hem := hI t (by rw [hdr]; simp)
      rw [h1] at hem
      simp only at hem
      have hO := f_Offset s t.l t.c (by omega)
      rw [h1] at hO
      simp only [pairI] at hO
      have hnx : ∀ u ∈ l.drop (i + 1), ((m + t.s.length : Nat) : Int) ≤ (offsetM s u.l u.c).1 := fun u hu => by
        have hp : (l.drop i).Pairwise _ := hord.sublist (List.drop_sublist i l)
        rw [hdr] at hp
        have := ((List.pairwise_cons.1 hp).1 u hu).1
        rw [h1] at this
        push_cast
        exact this
      have ih := ih (m + t.s.length) ⟨h4, hnx⟩
      have hpre : t.s.isPrefixOf (s.drop m) = true := List.isPrefixOf_iff_prefix.2 h2
      have hH := F_HasPrefix (s.drop m) t.s
      rw [hpre] at hH
      have hmin : min (m : Int) s.length = m := by omega
      have htn : 0 < t.s.length := List.length_pos_iff.2 h3
      clear hord hat hI hnx hdr h1 h2 hpre
      repeat' (first | ((with_reducible refine wcm ?_); first | refine cF (hO) ?_ | refine cF (hH) ?_) | refine dr ?_ | (refine ds ?_ ?_ <;> intro hb) | ((with_reducible refine dbm ?_); first | exact db_nil | refine dbc ?_ ?_) | ((with_reducible refine natle ?_); first | assumption | omega | (simp; omega)))
      refine LP_at ?_ ?_ ih
      · (first | (simp [Env.shr, Env.get, PV.exp, PV.ids, PV.ids.idsL]; done) | simp [Env.shr, Env.get, PV.exp, PV.ids, PV.ids.idsL, *])
      · simp [shrink, Ent.exp, PV.exp, PV.ids]
    · rintro e ⟨he, _⟩
      repeat' (first | ((with_reducible refine wcm ?_); first | refine cF (hsan) ?_) | refine dr ?_ | (refine ds ?_ ?_ <;> intro hb) | ((with_reducible refine dbm ?_); first | exact db_nil | refine dbc ?_ ?_) | ((with_reducible refine natle ?_); first | assumption | omega | (simp; omega)))
      all_goals (simp; done)
end Go.Plane
end
section
set_option linter.unusedVariables false
set_option linter.unusedSimpArgs false
set_option maxRecDepth 100000
set_option maxHeartbeats 4000000
namespace Go.Plane
open Go Go.Proofs
attribute [local irreducible] wops wio wic wdt wdb onOut
theorem firstErr_line : ∀ (ls : List (List UInt8)) (l : Int) (e : Int × Int × Int), firstErr l ls = some e → l ≤ e.1 ∧ e.1 < l + ls.length
  | [], _, _, h => by cases h
  | y :: ls, l, e, h => by
    simp only [firstErr] at h
    cases hp : errOf (scanM y) with
    | none =>
      rw [hp] at h
      have := firstErr_line ls _ _ h
      simp only [List.length_cons]
      push_cast
      omega
    | some p =>
      rw [hp] at h
      cases h
      simp only [List.length_cons]
      push_cast
      omega
theorem withLF_len (l : List (List UInt8)) (h : ∀ s ∈ l, s.length ≤ 100) : (withLF l).length ≤ l.length * 101 := by
  induction l with
  | nil => simp [withLF]
  | cons s l ih =>
    have h1 := ih (fun x hx => h x (by simp [hx]))
    have h2 := h s (by simp)
    simp [withLF] at h1 ⊢
    omega
/-- **LexJoins.** -/
theorem law_Joins (l : List (List UInt8)) : F Γd 6 [.d (.slice (strsD l))] (.d (.bool true)) := by
  refine fn_of c6 rfl (by simp only [Env.of, List.zipIdx, List.map]; rfl) ?_
  have hsan := f_sanity
  have hln := strsD_length l
  by_cases hl : 6 < l.length
  · repeat' (first | ((with_reducible refine wcm ?_); first | refine cF (hsan) ?_) | refine dr ?_ | (refine ds ?_ ?_ <;> intro hb) | ((with_reducible refine dbm ?_); first | exact db_nil | refine dbc ?_ ?_) | ((with_reducible refine natle ?_); first | assumption | omega | (simp; omega)))
    all_goals (simp; done)
  repeat' (first | refine dr ?_ | (refine ds ?_ ?_ <;> intro hb) | ((with_reducible refine dbm ?_); first | exact db_nil | refine dbc ?_ ?_) | ((with_reducible refine natle ?_); first | assumption | omega | (simp; omega)))
  refine LP_for l (fun i _ => [(0, .d (.slice (strsD l))), (23, .d (.slice (strsD l))), (24, .d (.int .i64 l.length)), (25, .d (.int .i64 i))]) (fun _ _ => []) (fun i (_ : Unit) => ∀ y ∈ l.take i, y.length ≤ 100) () ?_ ?_ (by simp) ?_ ?_
  · (first | (simp [Env.shr, Env.get, PV.exp, PV.ids, PV.ids.idsL]; done) | simp [Env.shr, Env.get, PV.exp, PV.ids, PV.ids.idsL, *])
  · first | rfl | simp [shrink, Ent.exp, PV.exp, PV.ids]
  · rintro i y _ hy hi hI ih
    have hr := strsD_at hy
    by_cases h9 : 100 < y.length
    · clear ih
      repeat' (first | ((with_reducible refine wcm ?_); first | refine cF (hsan) ?_) | refine dr ?_ | (refine ds ?_ ?_ <;> intro hb) | ((with_reducible refine dbm ?_); first | exact db_nil | refine dbc ?_ ?_) | ((with_reducible refine natle ?_); first | assumption | omega | (simp; omega)))
      all_goals (simp; done)
    · have ih := ih () (fun z hz => by
        rw [List.take_add_one, hy, List.mem_append] at hz
        rcases hz with hz | hz
        · exact hI z hz
        · simp at hz; subst hz; omega)
      clear hI
      repeat' (first | refine dr ?_ | (refine ds ?_ ?_ <;> intro hb) | ((with_reducible refine dbm ?_); first | exact db_nil | refine dbc ?_ ?_) | ((with_reducible refine natle ?_); first | assumption | omega | (simp; omega)))
      refine LP_at ?_ ?_ ih
      · (first | (simp [Env.shr, Env.get, PV.exp, PV.ids, PV.ids.idsL]; done) | simp [Env.shr, Env.get, PV.exp, PV.ids, PV.ids.idsL, *])
      · simp [shrink, Ent.exp, PV.exp, PV.ids]
  rintro _ hI
  rw [List.take_length] at hI
  have hwl := withLF_len l hI
  have hj : joinM l = (withLF l, startsM 1 l, 0) := by
    unfold joinM
    rw [if_neg (by omega), if_neg, if_neg (by omega)]
    rw [Bool.not_eq_true, List.any_eq_false]
    intro s hs
    have := hI s hs
    simp; omega
  have hJ := f_Join l (by omega) (fun y hy => by have := hI y hy; omega)
  rw [hj] at hJ
  simp only at hJ
  have hT := f_Tokens (withLF l) (by omega)
  have hTe := tokensM_eq (s := withLF l) (by omega)
  have hTl := tokensM_len (s := withLF l) (by omega)
  rw [splitL_withLF] at hTe
  have hsl := startsM_len l 1
  have hse := startsM_eq l 1
  have hfl : ∀ i, ((l.take i).flatMap (splitL 10)).length ≤ 1000 := fun i => by
    have h1 : (l.take i).flatMap (splitL 10) ++ (l.drop i).flatMap (splitL 10) = l.flatMap (splitL 10) := by rw [← List.flatMap_append, List.take_append_drop]
    have h2 := splitL_withLF l
    have h3 := splitL_length 10 (withLF l)
    have h4 : (withLF l).count 10 ≤ (withLF l).length := List.count_le_length
    rw [h2, ← h1] at h3
    simp only [List.length_append, List.length_singleton] at h3
    omega
  have hal : ∀ i, (allToks isTok 1 ((l.take i).flatMap (splitL 10))).length ≤ 1000 := fun i => by
    have h1 := allToks_len isTok ((l.take i).flatMap (splitL 10)) 1
    have h2 : (((l.take i).flatMap (splitL 10)).map List.length).sum ≤ ((l.flatMap (splitL 10) ++ [[]]).map List.length).sum := by
      have h3 : l.flatMap (splitL 10) = (l.take i).flatMap (splitL 10) ++ (l.drop i).flatMap (splitL 10) := by rw [← List.flatMap_append, List.take_append_drop]
      rw [h3]
      simp only [List.map_append, List.sum_append]
      omega
    have h4 := splitL_sum 10 (withLF l)
    rw [splitL_withLF] at h4
    omega
  have hsid := intsD_length (startsM 1 l)
  generalize withLF l = w at *
  generalize hst : startsM 1 l = st at *
  generalize tokensM w = T at *
  obtain ⟨tl, t1, t2, t3⟩ := T
  simp only at hTl
  have htl := toksD_length tl
  simp only [readP] at hT
  clear hj
  repeat' (first | ((with_reducible refine wcm ?_); first | refine cF (hJ) ?_ | refine cF (hT) ?_) | refine dr ?_ | (refine ds ?_ ?_ <;> intro hb) | ((with_reducible refine dbm ?_); first | exact db_nil | refine dbc ?_ ?_) | ((with_reducible refine natle ?_); first | assumption | omega | (simp; omega)))
  refine LP_for l (fun i (acc : List Tok) => [(6, .d (.slice (intsD st))), (8, .d (.slice (toksD tl))), (9, .ptr 0 0), (10, .d (.int .i64 t3)), (11, .lref 1 acc.length), (55, .d (.slice (strsD l))), (56, .d (.int .i64 l.length)), (57, .d (.int .i64 i))])
    (fun _ acc => [.box 23 [.d (.int .i64 t1), .d (.int .i64 t2)], .lst (57, 4) (toksD acc)])
    (fun i acc => acc = allToks isTok 1 ((l.take i).flatMap (splitL 10)) ∧ firstErr 1 ((l.take i).flatMap (splitL 10)) = none) [] ?_ ?_ ⟨rfl, rfl⟩ ?_ ?_
  · (first | (simp [Env.shr, Env.get, PV.exp, PV.ids, PV.ids.idsL]; done) | simp [Env.shr, Env.get, PV.exp, PV.ids, PV.ids.idsL, *])
  · first | rfl | simp [shrink, Ent.exp, PV.exp, PV.ids, toksD]
  · rintro i y acc hy hi ⟨hacc, herr⟩ ih
    have hr := strsD_at hy
    have hyl := hI y (List.mem_of_getElem? hy)
    have hYT := f_Tokens y (by omega)
    rw [tokensM_eq (s := y) (by omega)] at hYT
    have hsp : (splitL 10 y).length ≤ 101 := by rw [splitL_length]; have := List.count_le_length (a := (10 : UInt8)) (l := y); omega
    have htk : (l.take (i + 1)).flatMap (splitL 10) = (l.take i).flatMap (splitL 10) ++ splitL 10 y := by rw [List.take_add_one, hy]; simp
    have hsti := hse i hi
    have hK := hfl i
    have hat : (intsD st)[i]? = some [.int .i64 (1 + (((l.take i).flatMap (splitL 10)).length : Int))] := by simp [intsD, hsti]
    have haccl : acc.length ≤ 1000 := by rw [hacc]; exact hal i
    generalize hKK : ((l.take i).flatMap (splitL 10)).length = K at *
    cases hey : firstErr 1 (splitL 10 y) with
    | some e =>
      have hdr : l.flatMap (splitL 10) ++ [[]] = (l.take i).flatMap (splitL 10) ++ (splitL 10 y ++ ((l.drop (i + 1)).flatMap (splitL 10) ++ [[]])) := by
        have h1 : l.flatMap (splitL 10) = (l.take (i + 1)).flatMap (splitL 10) ++ (l.drop (i + 1)).flatMap (splitL 10) := by rw [← List.flatMap_append, List.take_append_drop]
        rw [h1, htk]
        simp only [List.append_assoc]
      have hfe : firstErr 1 (l.flatMap (splitL 10) ++ [[]]) = some (e.1 + K, e.2) := by
        rw [hdr, firstErr_append, herr, Option.none_or, firstErr_append, hKK, firstErr_shift, hey]
        rfl
      rw [hfe] at hTe
      rw [hey] at hYT
      have hne := firstErr_ne _ _ _ hey
      have hbd := firstErr_line _ _ _ hey
      obtain ⟨e1, e2, e3⟩ := e
      simp only [Prod.mk.injEq] at hTe
      obtain ⟨rfl, rfl, rfl, rfl⟩ := hTe
      simp only [readP] at hYT
      simp only at hne hbd hYT
      have h1i : e1 + (1 + (K : Int)) - 1 = e1 + K := by omega
      clear ih hfe hey herr hacc htk hdr hse hfl hal hsti
      repeat' (first | ((with_reducible refine wcm ?_); first | refine cF (hYT) ?_ | refine cF (hsan) ?_) | refine dr ?_ | (refine ds ?_ ?_ <;> intro hb) | ((with_reducible refine dbm ?_); first | exact db_nil | refine dbc ?_ ?_) | ((with_reducible refine natle ?_); first | assumption | omega | (simp; omega)))
      all_goals (simp [eqDs, D.eqv, h1i]; done)
    | none =>
      rw [hey] at hYT
      simp only [readP] at hYT
      have hmb : ∀ t ∈ allToks isTok 1 (splitL 10 y), 1 ≤ t.l ∧ t.l ≤ 200 := fun t ht => by have := allToks_lines ht; omega
      have hml : (allToks isTok 1 (splitL 10 y)).length ≤ 100 := by
        have h1 := allToks_len isTok (splitL 10 y) 1
        have h2 := splitL_sum 10 y
        omega
      have hshift := allToks_shift isTok (1 + (K : Int) - 1) (splitL 10 y) 1
      have ih := ih (acc ++ (allToks isTok 1 (splitL 10 y)).map (shiftT (1 + (K : Int) - 1))) ⟨by rw [htk, allToks_append, ← hacc, hKK, ← hshift, show (1 : Int) + (1 + (K : Int) - 1) = 1 + K by omega], by rw [htk, firstErr_append, herr, hKK, firstErr_shift, hey]; rfl⟩
      clear hey herr hacc htk hTe hse hfl hal hsti hshift
      generalize allToks isTok 1 (splitL 10 y) = m at *
      have hmln := toksD_length m
      repeat' (first | ((with_reducible refine wcm ?_); first | refine cF (hYT) ?_) | refine dr ?_ | (refine ds ?_ ?_ <;> intro hb) | ((with_reducible refine dbm ?_); first | exact db_nil | refine dbc ?_ ?_) | ((with_reducible refine natle ?_); first | assumption | omega | (simp; omega)))
      refine LP_for m (fun k (c : List Tok) => [(6, .d (.slice (intsD st))), (8, .d (.slice (toksD tl))), (9, .ptr 0 0), (10, .d (.int .i64 t3)), (11, .lref 1 c.length), (12, .d (.int .i64 i)), (55, .d (.slice (strsD l))), (56, .d (.int .i64 l.length)), (57, .d (.int .i64 i)), (91, .d (.slice (toksD m))), (92, .d (.int .i64 m.length)), (93, .d (.int .i64 k))])
        (fun _ c => [.box 23 [.d (.int .i64 t1), .d (.int .i64 t2)], .lst (57, 4) (toksD c), .box 23 [.d (.int .i64 0), .d (.int .i64 0)]])
        (fun k c => c = acc ++ (m.take k).map (shiftT (1 + (K : Int) - 1))) acc ?_ ?_ (by simp) ?_ ?_
      · (first | (simp [Env.shr, Env.get, PV.exp, PV.ids, PV.ids.idsL]; done) | simp [Env.shr, Env.get, PV.exp, PV.ids, PV.ids.idsL, *])
      · first | rfl | simp [shrink, Ent.exp, PV.exp, PV.ids, toksD]
      · rintro k t c ht hk hc ih2
        have hrt := toksD_at ht
        have htb := hmb t (List.mem_of_getElem? ht)
        have hcl : c.length ≤ 2000 := by rw [hc]; simp; omega
        have hcd := toksD_length c
        have hcd2 := toksD_len c
        have ih2 := ih2 (c ++ [shiftT (1 + (K : Int) - 1) t]) (by rw [List.take_add_one, ht, hc]; simp)
        clear hc ih hmb
        repeat' (first | refine dr ?_ | (refine ds ?_ ?_ <;> intro hb) | ((with_reducible refine dbm ?_); first | exact db_nil | refine dbc ?_ ?_) | ((with_reducible refine natle ?_); first | assumption | omega | (simp; omega)))
        refine LP_at ?_ ?_ ih2
        · (first | (simp [Env.shr, Env.get, PV.exp, PV.ids, PV.ids.idsL]; done) | simp [Env.shr, Env.get, PV.exp, PV.ids, PV.ids.idsL, *])
        · simp [shrink, Ent.exp, PV.exp, PV.ids, toksD, shiftT]
      · rintro c hc
        rw [List.take_length] at hc
        subst hc
        clear hmb
        repeat' (first | refine dr ?_ | (refine ds ?_ ?_ <;> intro hb) | ((with_reducible refine dbm ?_); first | exact db_nil | refine dbc ?_ ?_) | ((with_reducible refine natle ?_); first | assumption | omega | (simp; omega)))
        refine LP_at ?_ ?_ ih
        · (first | (simp [Env.shr, Env.get, PV.exp, PV.ids, PV.ids.idsL]; done) | simp [Env.shr, Env.get, PV.exp, PV.ids, PV.ids.idsL, *])
        · simp [shrink, Ent.exp, PV.exp, PV.ids, toksD]
  · rintro acc ⟨hacc, herr⟩
    have hac2 := hal l.length
    rw [List.take_length] at hacc herr hac2
    rw [firstErr_append, herr, Option.none_or, show firstErr (1 + ((l.flatMap (splitL 10)).length : Int)) [[]] = none from rfl] at hTe
    simp only [Prod.mk.injEq] at hTe
    obtain ⟨rfl, rfl, rfl, rfl⟩ := hTe
    have hall : allToks isTok 1 (l.flatMap (splitL 10) ++ [[]]) = acc := by
      rw [allToks_append, ← hacc]
      have : allToks isTok (1 + ((l.flatMap (splitL 10)).length : Int)) [[]] = [] := rfl
      rw [this, List.append_nil]
    rw [← hacc] at hac2
    rw [hall] at *
    have hsame := same_self acc (by omega)
    have htake : (toksD acc).take acc.length = toksD acc := List.take_of_length_le (by rw [toksD_length]; exact Nat.le_refl _)
    clear hall hacc herr hse hfl hal
    repeat' (first | ((with_reducible refine wcm ?_); first | refine cF (hsame) ?_ | refine cF (hsan) ?_) | refine dr ?_ | (refine ds ?_ ?_ <;> intro hb) | ((with_reducible refine dbm ?_); first | exact db_nil | refine dbc ?_ ?_) | ((with_reducible refine natle ?_); first | assumption | omega | (simp; omega)))
    all_goals (simp; done)
end Go.Plane
end
section
set_option linter.unusedVariables false
set_option linter.unusedSimpArgs false
namespace Go.Plane
open Go Go.Proofs
/-! ### Runs and signs -/
def isRun (t : List UInt8) : Prop := ∃ b r, t = b :: r ∧ b ≠ 95 ∧ ∀ c ∈ t, isPart c = true
theorem right_shape {t : Tok} (h : rightM t = true) : shapeM t.s = (t.k, 0) ∧ t.k ≠ 6 := by
  have := of_decide_eq_true h
  exact ⟨Prod.ext this.2.1 this.1, this.2.2⟩
theorem right_of {t : Tok} (h : shapeM t.s = (t.k, 0)) (h6 : t.k ≠ 6) : rightM t = true := by
  unfold rightM
  rw [decide_eq_true_eq, h]
  exact ⟨rfl, rfl, h6⟩
theorem digit_ne95 {b : UInt8} (h : isDigit b = true) : b ≠ 95 := by
  rintro rfl
  revert h
  decide
theorem shape_cases {s : List UInt8} {k : Int} (h : shapeM s = (k, 0)) : isRun s ∨ (s ∈ signs ∧ k = 5) := by
  unfold shapeM at h
  split at h
  · cases h
  · rename_i b r
    split at h
    · rename_i h1
      exact .inl ⟨b, r, rfl, digit_ne95 h1.2, takeWhile_all h1.1⟩
    · split at h
      · rename_i h1
        exact .inl ⟨b, r, rfl, h1.2, takeWhile_all h1.1⟩
      · split at h
        · rename_i h1
          exact .inr ⟨(mem_signs b r).2 h1, by cases h; rfl⟩
        · cases h
theorem run_noSign {t : List UInt8} (h : isRun t) : t ∉ signs := by
  obtain ⟨b, r, rfl, _, h1⟩ := h
  intro hs
  have := sign_head hs
  rw [h1 b (by simp)] at this
  cases this
theorem sign_ne {t : List UInt8} (h : t ∈ signs) : t ≠ [] := by
  have : ∀ x ∈ signs, x ≠ [] := by decide
  exact this t h
theorem sign_bytes {t : List UInt8} (h : t ∈ signs) : ∀ c ∈ t, c ≠ 32 ∧ c ≠ 10 := by
  have : ∀ x ∈ signs, ∀ c ∈ x, c ≠ 32 ∧ c ≠ 10 := by decide
  exact this t h
theorem part_bytes {c : UInt8} (h : isPart c = true) : c ≠ 32 ∧ c ≠ 10 ∧ c ≠ 45 := by
  refine ⟨?_, ?_, ?_⟩ <;> (rintro rfl; revert h; decide)
theorem right_cases {t : Tok} (h : rightM t = true) : isRun t.s ∨ (t.s ∈ signs ∧ t.k = 5) := shape_cases (right_shape h).1
theorem right_ne {t : Tok} (h : rightM t = true) : t.s ≠ [] := by
  rcases right_cases h with h | h
  · obtain ⟨b, r, h1, _⟩ := h; rw [h1]; simp
  · exact sign_ne h.1
theorem right_bytes {t : Tok} (h : rightM t = true) : ∀ c ∈ t.s, c ≠ 32 ∧ c ≠ 10 := by
  rcases right_cases h with h | h
  · obtain ⟨b, r, h1, _, h2⟩ := h
    exact fun c hc => ⟨(part_bytes (h2 c hc)).1, (part_bytes (h2 c hc)).2.1⟩
  · exact sign_bytes h.1
theorem takeWhile_stop {p : UInt8 → Bool} {u R : List UInt8} (h1 : ∀ c ∈ u, p c = true) (h2 : ∀ c, R.head? = some c → p c = false) : (u ++ R).takeWhile p = u := by
  rw [List.takeWhile_append_of_pos h1]
  cases R with
  | nil => simp
  | cons c R => rw [List.takeWhile_cons, if_neg (by simp [h2 c rfl])]; simp
theorem note_head {b : UInt8} {r : List UInt8} (h : b ≠ 45) : [45, 45].isPrefixOf (b :: r) = false := by
  simp [List.isPrefixOf, Ne.symm h]
theorem piece_run {i : Int} {b : UInt8} {r R : List UInt8} (h : isRun (b :: r)) (hR : ∀ c, R.head? = some c → isPart c = false) :
    pieceM i b (r ++ R) = (⟨(shapeM (b :: r)).1, b :: r, i, (shapeM (b :: r)).2⟩, (b :: r).length) := by
  obtain ⟨_, _, he, h95, hall⟩ := h
  cases he
  have htw : List.takeWhile isPart (b :: (r ++ R)) = b :: r := takeWhile_stop (u := b :: r) hall hR
  unfold pieceM
  rw [if_neg (by rw [note_head (part_bytes (hall b (by simp))).2.2]; simp), htw, if_pos ⟨by simp, h95⟩]
  have : List.take (b :: r).length (b :: (r ++ R)) = b :: r := by
    rw [← List.cons_append]; exact List.take_left
  rw [this]
theorem piece_sign {i : Int} {b : UInt8} {r R : List UInt8} (hs : b :: r ∈ signs) (h1 : signM (b :: r ++ R) = b :: r) (h2 : [45, 45].isPrefixOf (b :: r ++ R) = false) :
    pieceM i b (r ++ R) = (⟨5, b :: r, i, 0⟩, (b :: r).length) := by
  have hb := sign_head hs
  rw [List.cons_append] at h1 h2
  unfold pieceM
  rw [if_neg (by rw [h2]; simp), if_neg (by rw [List.takeWhile_cons, if_neg (by simp [hb])]; simp), h1]
  simp
/-- Such a text stands ahead of such another one, and is read by itself. -/
def fits (t R : List UInt8) : Prop := (t ∈ signs → signM (t ++ R) = t ∧ [45, 45].isPrefixOf (t ++ R) = false) ∧ (t ∉ signs → ∀ c, R.head? = some c → isPart c = false)
theorem ne32_of {t : Tok} (hr : rightM t = true) {b : UInt8} {r : List UInt8} (h : t.s = b :: r) : b ≠ 32 := (right_bytes hr b (by rw [h]; simp)).1
theorem scan_fits {i : Nat} {t : Tok} {R : List UInt8} (hr : rightM t = true) (hf : fits t.s R) : scan i (t.s ++ R) = ⟨t.k, t.s, i, 0⟩ :: scan (i + t.s.length) R := by
  obtain ⟨hsh, h6⟩ := right_shape hr
  cases hs : t.s with
  | nil => exact absurd hs (right_ne hr)
  | cons b r =>
    have hb := ne32_of hr hs
    rw [hs] at hsh hf
    have hp : pieceM i b (r ++ R) = (⟨t.k, b :: r, i, 0⟩, (b :: r).length) := by
      rcases right_cases hr with h | h
      · rw [hs] at h
        rw [piece_run h (hf.2 (run_noSign h)), hsh]
      · rw [hs] at h
        obtain ⟨k1, k2⟩ := hf.1 h.1
        rw [piece_sign h.1 k1 k2, h.2]
    rw [List.cons_append, scan_ok hb (by rw [hp]), hp]
    simp only
    congr 2
    rw [← List.cons_append]; exact List.drop_left
theorem fits_of_scan {i : Nat} {t : Tok} {R : List UInt8} {p : Pc} {q : List Pc} (hr : rightM t = true) (h : scan i (t.s ++ R) = p :: q) (he : p.e = 0) (hs : p.s = t.s) (hk : p.k = t.k) :
    fits t.s R ∧ q = scan (i + t.s.length) R := by
  obtain ⟨hsh, h6⟩ := right_shape hr
  cases hts : t.s with
  | nil => exact absurd hts (right_ne hr)
  | cons b r =>
    have hb := ne32_of hr hts
    rw [hts, List.cons_append] at h
    have hpe : (pieceM i b (r ++ R)).1.e = 0 := by
      apply Decidable.byContradiction
      intro hne
      rw [scan_err hb hne] at h
      rw [(List.cons.inj h).1] at hne
      exact hne he
    rw [scan_ok hb hpe] at h
    obtain ⟨h1, h2⟩ := List.cons.inj h
    have hlen := piece_len hpe
    have htx := (piece_text hpe).1
    rw [h1, hs, hts] at hlen htx
    refine ⟨?_, ?_⟩
    · rcases right_cases hr with hc | hc
      · rw [hts] at hc
        refine ⟨fun hsg => absurd hsg (run_noSign hc), fun _ c hc' => ?_⟩
        obtain ⟨_, _, heq, h95, hall⟩ := hc
        cases heq
        have hn : ¬[45, 45].isPrefixOf (b :: (r ++ R)) = true := by rw [note_head (part_bytes (hall b (by simp))).2.2]; simp
        have htw : 0 < (List.takeWhile isPart (b :: (r ++ R))).length := by rw [List.takeWhile_cons, if_pos (hall b (by simp))]; simp
        have hpm : (pieceM i b (r ++ R)).2 = (List.takeWhile isPart (b :: (r ++ R))).length := by
          unfold pieceM; rw [if_neg hn, if_pos ⟨htw, h95⟩]
        rw [hpm] at hlen
        have h3 : List.takeWhile isPart (b :: r ++ R) = (b :: r) ++ R.takeWhile isPart := List.takeWhile_append_of_pos hall
        rw [List.cons_append] at h3
        rw [h3, List.length_append] at hlen
        cases R with
        | nil => cases hc'
        | cons d R =>
          cases hc'
          rw [List.takeWhile_cons] at hlen
          split at hlen
          · simp at hlen
          · rename_i hd; simpa using hd
      · rw [hts] at hc
        refine ⟨fun _ => ?_, fun hn => absurd hc.1 hn⟩
        have hbp := sign_head hc.1
        have hn : [45, 45].isPrefixOf (b :: (r ++ R)) = false := by
          rcases piece_right hpe with h5 | h5
          · rw [h1, hk] at h5; exact absurd h5.1 h6
          · exact h5.2.2
        refine ⟨?_, hn⟩
        have hpm : (pieceM i b (r ++ R)).1.s = signM (b :: (r ++ R)) := by
          unfold pieceM
          rw [if_neg (by rw [hn]; simp), if_neg (by rw [List.takeWhile_cons, if_neg (by simp [hbp])]; simp)]
        rw [h1, hs, hts] at hpm
        exact hpm.symm
    · rw [← h2, ← hlen]
      congr 1
      rw [← List.cons_append]; exact List.drop_left
theorem signM_two (x y : UInt8) (l : List UInt8) : signM (x :: y :: l) = signM [x, y] := by
  unfold signM
  congr 1
theorem fits_ext {t R : List UInt8} (R' : List UInt8) (hR : R ≠ []) : fits t (R ++ R') ↔ fits t R := by
  unfold fits
  have h1 : (R ++ R').head? = R.head? := by cases R with | nil => exact absurd rfl hR | cons c R => rfl
  have h2 : t ∈ signs → signM (t ++ (R ++ R')) = signM (t ++ R) ∧ [45, 45].isPrefixOf (t ++ (R ++ R')) = [45, 45].isPrefixOf (t ++ R) := by
    intro hs
    have hne := sign_ne hs
    match t, R, hne, hR with
    | a :: [], c :: R, _, _ =>
      simp only [List.cons_append, List.nil_append]
      exact ⟨by rw [signM_two, signM_two a c R], by simp [List.isPrefixOf]⟩
    | a :: b :: t, R, _, _ =>
      simp only [List.cons_append]
      exact ⟨by rw [signM_two, signM_two a b (t ++ R)], by simp [List.isPrefixOf]⟩
  rw [h1]
  constructor
  · rintro ⟨k1, k2⟩
    exact ⟨fun hs => by have := k1 hs; rwa [(h2 hs).1, (h2 hs).2] at this, k2⟩
  · rintro ⟨k1, k2⟩
    exact ⟨fun hs => by have := k1 hs; rwa [(h2 hs).1, (h2 hs).2], k2⟩
theorem fits_nil (t : List UInt8) : fits t [] := by
  refine ⟨fun hs => ?_, fun _ c hc => by cases hc⟩
  have : ∀ x ∈ signs, signM (x ++ []) = x ∧ [45, 45].isPrefixOf (x ++ []) = false := by decide
  exact this t hs
theorem fits_blank (t R : List UInt8) : fits t (32 :: R) := by
  have h : fits t [32] := by
    refine ⟨fun hs => ?_, fun _ c hc => by cases hc; decide⟩
    have : ∀ x ∈ signs, signM (x ++ [32]) = x ∧ [45, 45].isPrefixOf (x ++ [32]) = false := by decide
    exact this t hs
  exact (fits_ext R (by simp)).2 h

/-! ### By kind and text -/
def kts (ps : List Pc) : List (Int × List UInt8) := (ps.filter fun p => isTok p.k).map fun p => (p.k, p.s)
theorem kept_kts (l : Int) (ps : List Pc) : (keptOf isTok l ps).map Tok.kt = kts ps := by
  simp only [keptOf, kts, List.map_map]
  rfl
theorem kts_cons {p : Pc} {q : List Pc} (h : p.k ≠ 6) : kts (p :: q) = (p.k, p.s) :: kts q := by
  have : isTok p.k = true := by simp [isTok, h]
  simp [kts, this]
theorem kts_note {p : Pc} {q : List Pc} (h : p.k = 6) : kts (p :: q) = kts q := by
  have : isTok p.k = false := by simp [isTok, h]
  simp [kts, this]
theorem scan_head {i : Nat} {c : UInt8} {u : List UInt8} (hc : c ≠ 32) (h0 : ∀ p ∈ scan i (c :: u), p.e = 0) {t : Int × List UInt8} {rest : List (Int × List UInt8)} (hk : kts (scan i (c :: u)) = t :: rest) :
    ∃ p q, scan i (c :: u) = p :: q ∧ (p.k, p.s) = t ∧ p.k ≠ 6 ∧ kts q = rest ∧ p.e = 0 := by
  have he : (pieceM i c u).1.e = 0 := by
    apply Decidable.byContradiction
    intro hne
    rw [scan_err hc hne] at h0
    exact hne (h0 _ (by simp))
  rw [scan_ok hc he] at hk ⊢
  rcases piece_right he with h | h
  · rw [kts_note h.1, h.2.2.1, List.drop_length, scan_nil'] at hk
    cases hk
  · rw [kts_cons h.1] at hk
    obtain ⟨h1, h2⟩ := List.cons.inj hk
    exact ⟨_, _, rfl, h1, h.1, h2, he⟩
theorem errOf_all {ps : List Pc} (h : ∀ p ∈ ps, p.e = 0) : errOf ps = none := by
  unfold errOf
  rw [List.find?_eq_none]
  intro p hp
  simp [h p hp]
theorem needs_fits {a b : Tok} (ha : rightM a = true) (hb : rightM b = true) : needsM a b = false ↔ fits a.s b.s := by
  have h2 : scan a.s.length b.s = [⟨b.k, b.s, a.s.length, 0⟩] := by
    have := scan_fits (i := a.s.length) hb (fits_nil b.s)
    rwa [List.append_nil, scan_nil'] at this
  unfold needsM
  rw [readM_eq]
  constructor
  · intro h
    have hf : errOf (scanM (a.s ++ b.s)) = none := by
      cases he : errOf (scanM (a.s ++ b.s)) with
      | none => rfl
      | some p =>
        have hne := List.find?_some he
        simp only [firstErr, he] at h
        simp at hne
        simp [hne] at h
    simp only [firstErr, hf, allToks, List.nil_append, List.append_nil, ne_eq, not_true, decide_false, Bool.false_or, Bool.not_eq_false'] at h
    have hk := of_decide_eq_true h
    rw [kept_kts, scanM_eq] at hk
    rw [scanM_eq] at hf
    have h0 := errOf_none hf
    cases hs : a.s with
    | nil => exact absurd hs (right_ne ha)
    | cons c u =>
      have hc := ne32_of ha hs
      rw [hs, List.cons_append] at hk h0
      obtain ⟨p, q, e1, e2, e3, e4, e5⟩ := scan_head hc h0 hk
      rw [← List.cons_append, ← hs] at e1
      simp only [Tok.kt, Prod.mk.injEq] at e2
      have := (fits_of_scan ha e1 e5 e2.2 e2.1).1
      rwa [hs] at this
  · intro h
    have h1 := scan_fits (i := 0) ha h
    rw [Nat.zero_add, h2] at h1
    have hf : errOf (scanM (a.s ++ b.s)) = none := by
      rw [scanM_eq, h1]; exact errOf_all (by simp)
    simp only [firstErr, hf, allToks, List.nil_append, List.append_nil, ne_eq, not_true, decide_false, Bool.false_or, Bool.not_eq_false']
    apply decide_eq_true
    rw [kept_kts, scanM_eq, h1]
    have k1 := (right_shape ha).2
    have k2 := (right_shape hb).2
    rw [kts_cons k1, kts_cons k2]
    rfl

/-! ### Texts of tokens are read back -/
section
variable {bl : Tok → Tok → Bool}
theorem fits_join (hbl : ∀ a b, rightM a = true → rightM b = true → bl a b = false → needsM a b = false) {t : Tok} (ht : rightM t = true) : ∀ l : List Tok, (∀ u ∈ l, rightM u = true) → fits t.s (joinTok bl (some t) l)
  | [], _ => fits_nil _
  | u :: l, h => by
    have hu := h u (by simp)
    simp only [joinTok, sepM]
    split
    · exact fits_blank _ _
    · rename_i hb
      rw [List.nil_append, fits_ext _ (right_ne hu)]
      exact (needs_fits ht hu).1 (hbl t u ht hu (by simpa using hb))
theorem scan_sep (o : Option Tok) (t : Tok) (i : Nat) (u : List UInt8) : ∃ j, scan i (sepM bl o t ++ u) = scan j u := by
  unfold sepM
  split
  · exact ⟨i, rfl⟩
  · split
    · exact ⟨i + 1, by simp [scan_blank]⟩
    · exact ⟨i, rfl⟩
theorem scan_join (hbl : ∀ a b, rightM a = true → rightM b = true → bl a b = false → needsM a b = false) : ∀ (l : List Tok) (o : Option Tok) (i : Nat), (∀ u ∈ l, rightM u = true) →
    (∀ p ∈ scan i (joinTok bl o l), p.e = 0) ∧ kts (scan i (joinTok bl o l)) = l.map Tok.kt
  | [], o, i, _ => by simp [joinTok, scan_nil', kts]
  | t :: l, o, i, h => by
    have ht := h t (by simp)
    have hl : ∀ u ∈ l, rightM u = true := fun u hu => h u (by simp [hu])
    simp only [joinTok, List.append_assoc]
    obtain ⟨j, hj⟩ := scan_sep (bl := bl) o t i (t.s ++ joinTok bl (some t) l)
    rw [hj, scan_fits ht (fits_join hbl ht l hl)]
    obtain ⟨k1, k2⟩ := scan_join hbl l (some t) (j + t.s.length) hl
    refine ⟨fun p hp => ?_, ?_⟩
    · rcases List.mem_cons.1 hp with rfl | hp
      · rfl
      · exact k1 p hp
    · rw [kts_cons (right_shape ht).2, k2]; rfl
theorem joinTok_bytes : ∀ (l : List Tok) (o : Option Tok), (∀ u ∈ l, rightM u = true) → 10 ∉ joinTok bl o l
  | [], o, _ => by simp [joinTok]
  | t :: l, o, h => by
    have ih := joinTok_bytes l (some t) (fun u hu => h u (by simp [hu]))
    have ht := right_bytes (h t (by simp))
    simp only [joinTok, List.mem_append, not_or]
    refine ⟨⟨?_, fun hc => (ht 10 hc).2 rfl⟩, ih⟩
    unfold sepM
    split
    · simp
    · split <;> simp
end
/-- The tokens of a text of right tokens. -/
theorem tokens_join {bl : Tok → Tok → Bool} (hbl : ∀ a b, rightM a = true → rightM b = true → bl a b = false → needsM a b = false) {l : List Tok} (h : ∀ u ∈ l, rightM u = true) (hn : l.length ≤ 6000) (hlen : (joinTok bl none l).length ≤ 20000) :
    (tokensM (joinTok bl none l)).2 = (0, 0, 0) ∧ (tokensM (joinTok bl none l)).1.map Tok.kt = l.map Tok.kt := by
  obtain ⟨k1, k2⟩ := scan_join hbl l none 0 h
  have hno := joinTok_bytes (bl := bl) l none h
  have hr : readM isTok 1 (splitL 10 (joinTok bl none l)) [] = (keptOf isTok 1 (scan 0 (joinTok bl none l)), 0, 0, 0) := by
    rw [splitL_one hno, readM_eq]
    simp only [firstErr, scanM_eq, errOf_all k1, allToks, List.append_nil, List.nil_append]
  have hkk : (keptOf isTok 1 (scan 0 (joinTok bl none l))).map Tok.kt = l.map Tok.kt := by rw [kept_kts, k2]
  have hll : (keptOf isTok 1 (scan 0 (joinTok bl none l))).length = l.length := by
    have := congrArg List.length hkk
    simpa using this
  unfold tokensM
  rw [if_neg (by omega), hr, if_neg (by simp only; omega)]
  exact ⟨rfl, hkk⟩
theorem joinTok_kt (bl : Tok → Tok → Bool) (hb : ∀ a b a' b' : Tok, a.kt = a'.kt → b.kt = b'.kt → bl a b = bl a' b') : ∀ (l m : List Tok) (o o' : Option Tok), l.map Tok.kt = m.map Tok.kt → o.map Tok.kt = o'.map Tok.kt → joinTok bl o l = joinTok bl o' m
  | [], [], _, _, _, _ => rfl
  | t :: l, u :: m, o, o', h, ho => by
    simp only [List.map_cons, List.cons.injEq] at h
    have hs : t.s = u.s := (Prod.mk.inj h.1).2
    simp only [joinTok]
    rw [joinTok_kt bl hb l m (some t) (some u) h.2 (by simp [h.1]), hs]
    congr 2
    cases o with
    | none => cases o' with
      | none => rfl
      | some b => cases ho
    | some a => cases o' with
      | none => cases ho
      | some b =>
        simp only [sepM]
        rw [hb a t b u (by simpa using ho) h.1]
  | [], u :: m, _, _, h, _ => by simp at h
  | t :: l, [], _, _, h, _ => by simp at h
theorem needsM_kt (a b a' b' : Tok) (h1 : a.kt = a'.kt) (h2 : b.kt = b'.kt) : needsM a b = needsM a' b' := by
  have e1 : a.s = a'.s := (Prod.mk.inj h1).2
  have e2 : b.s = b'.s := (Prod.mk.inj h2).2
  unfold needsM sameK
  simp only [e1, e2, List.map_cons, h1, h2, List.map_nil]
theorem rightM_kt {a b : Tok} (h : a.kt = b.kt) : rightM a = rightM b := by
  obtain ⟨h1, h2⟩ := Prod.mk.inj h
  unfold rightM
  rw [h1, h2]

/-! ### No blank can be left out -/
theorem blank_at {bl : Tok → Tok → Bool} : ∀ (l : List Tok) (o : Option Tok) (k : Nat), (∀ u ∈ l, rightM u = true) → (joinTok bl o l)[k]? = some 32 →
    ∃ l1 b l2 a, l = l1 ++ b :: l2 ∧ (joinTok bl o l).take k = joinTok bl o l1 ∧ (joinTok bl o l).drop (k + 1) = b.s ++ joinTok bl (some b) l2 ∧ l1.getLast?.or o = some a ∧ bl a b = true
  | [], _, _, _, h => by simp [joinTok] at h
  | t :: l, o, k, hr, h => by
    have ht := right_bytes (hr t (by simp))
    have hl : ∀ u ∈ l, rightM u = true := fun u hu => hr u (by simp [hu])
    simp only [joinTok] at h ⊢
    by_cases hk : k < (sepM bl o t).length
    · have hsep : ∃ a, o = some a ∧ bl a t = true ∧ sepM bl o t = [32] := by
        cases o with
        | none => simp [sepM] at hk
        | some a =>
          simp only [sepM] at hk ⊢
          split at hk
          · rename_i hb; exact ⟨a, rfl, hb, by rw [if_pos hb]⟩
          · simp at hk
      obtain ⟨a, rfl, hb, hs⟩ := hsep
      rw [hs] at hk ⊢
      have : k = 0 := by simp at hk; exact hk
      subst this
      exact ⟨[], t, l, a, rfl, by simp [joinTok], by simp, rfl, hb⟩
    · by_cases hk2 : k < (sepM bl o t ++ t.s).length
      · rw [List.getElem?_append_left hk2, List.getElem?_append_right (by omega)] at h
        exact absurd rfl (ht 32 (List.mem_of_getElem? h)).1
      · rw [List.getElem?_append_right (by omega)] at h
        obtain ⟨l1, b, l2, a, e1, e2, e3, e4, e5⟩ := blank_at l (some t) _ hl h
        refine ⟨t :: l1, b, l2, a, by rw [e1]; rfl, ?_, ?_, ?_, e5⟩
        · rw [List.take_append, e2, List.take_of_length_le (by omega)]
          rfl
        · rw [List.drop_append, List.drop_of_length_le (by omega), List.nil_append, show k + 1 - (sepM bl o t ++ t.s).length = k - (sepM bl o t ++ t.s).length + 1 by omega, e3]
        · rw [← e4]
          cases l1 with
          | nil => simp
          | cons y l1 =>
            simp only [List.getLast?_cons_cons]
            cases hh : (y :: l1).getLast? with
            | none => simp at hh
            | some z => rfl
theorem peel {bl : Tok → Tok → Bool} : ∀ (l : List Tok) (o : Option Tok) (i : Nat) (Y : List UInt8) (rest : List (Int × List UInt8)), (∀ u ∈ l, rightM u = true) → (∀ p ∈ scan i (joinTok bl o l ++ Y), p.e = 0) →
    kts (scan i (joinTok bl o l ++ Y)) = l.map Tok.kt ++ rest → ∃ j, (∀ p ∈ scan j Y, p.e = 0) ∧ kts (scan j Y) = rest ∧ ∀ a, l.getLast? = some a → fits a.s Y
  | [], o, i, Y, rest, _, h0, hk => ⟨i, h0, hk, fun a ha => by cases ha⟩
  | t :: l, o, i, Y, rest, hr, h0, hk => by
    have ht := hr t (by simp)
    simp only [joinTok, List.append_assoc] at h0 hk
    obtain ⟨j, hj⟩ := scan_sep (bl := bl) o t i (t.s ++ (joinTok bl (some t) l ++ Y))
    rw [hj] at h0 hk
    cases hs : t.s with
    | nil => exact absurd hs (right_ne ht)
    | cons c u =>
      have hc := ne32_of ht hs
      rw [hs, List.cons_append] at hk h0
      obtain ⟨p, q, e1, e2, e3, e4, e5⟩ := scan_head hc h0 hk
      have h0' := h0
      rw [e1] at h0'
      rw [← List.cons_append, ← hs] at e1
      simp only [Tok.kt, Prod.mk.injEq] at e2
      obtain ⟨f1, f2⟩ := fits_of_scan ht e1 e5 e2.2 e2.1
      subst f2
      obtain ⟨j', g1, g2, g3⟩ := peel l (some t) _ Y rest (fun x hx => hr x (by simp [hx])) (fun p hp => h0' p (by simp [hp])) e4
      refine ⟨j', g1, g2, fun a ha => ?_⟩
      cases l with
      | nil =>
        simp at ha
        subst ha
        exact f1
      | cons y l => exact g3 a (by rwa [List.getLast?_cons_cons] at ha)
/-- No blank of the shortest text can be left out. -/
theorem no_blank {l : List Tok} (h : ∀ u ∈ l, rightM u = true) {k : Nat} (hk : (joinTok needsM none l)[k]? = some 32)
    (h0 : ∀ p ∈ scan 0 ((joinTok needsM none l).take k ++ (joinTok needsM none l).drop (k + 1)), p.e = 0) : kts (scan 0 ((joinTok needsM none l).take k ++ (joinTok needsM none l).drop (k + 1))) ≠ l.map Tok.kt := by
  intro hkk
  obtain ⟨l1, b, l2, a, e1, e2, e3, e4, e5⟩ := blank_at l none k h hk
  rw [e2, e3] at h0 hkk
  rw [e1, List.map_append] at hkk
  have hr1 : ∀ u ∈ l1, rightM u = true := fun u hu => h u (by rw [e1]; simp [hu])
  have hrb : rightM b = true := h b (by rw [e1]; simp)
  obtain ⟨j, g1, g2, g3⟩ := peel l1 none 0 _ _ hr1 h0 hkk
  have hla : l1.getLast? = some a := by simpa using e4
  have hra : rightM a = true := hr1 a (List.mem_of_getLast? hla)
  have := (fits_ext _ (right_ne hrb)).1 (g3 a hla)
  rw [(needs_fits hra hrb).2 this] at e5
  cases e5

/-! ### The shortest text is not longer -/
theorem joinTok_append (bl : Tok → Tok → Bool) : ∀ (l m : List Tok) (o : Option Tok), joinTok bl o (l ++ m) = joinTok bl o l ++ joinTok bl (l.getLast?.or o) m
  | [], m, o => by simp [joinTok]
  | t :: l, m, o => by
    simp only [List.cons_append, joinTok, joinTok_append bl l m (some t), List.append_assoc]
    rw [show (t :: l).getLast?.or o = l.getLast?.or (some t) by
      cases l with
      | nil => simp
      | cons y l =>
        simp only [List.getLast?_cons_cons]
        cases h : (y :: l).getLast? with
        | none => simp at h
        | some z => rfl]
theorem tight_line (L : Int) : ∀ (i : Nat) (u : List UInt8), (∀ p ∈ scan i u, p.e = 0) → ∀ o : Option Tok, (∀ a, o = some a → rightM a = true) →
    (joinTok needsM o (keptOf isTok L (scan i u))).length ≤ u.length + o.toList.length ∧ ∀ a, o = some a → fits a.s u → (joinTok needsM o (keptOf isTok L (scan i u))).length ≤ u.length := by
  refine scan_ind (fun i h o ho => ?_) (fun i r ih h o ho => ?_) (fun i b r hb he h o ho => ?_) (fun i b r hb he ih h o ho => ?_)
  · simp [scan_nil', keptOf, joinTok]
  · rw [scan_blank] at h ⊢
    have ih := ih h o ho
    refine ⟨by simp only [List.length_cons]; omega, fun a ha _ => ?_⟩
    subst ha
    have := ih.1
    simp only [Option.toList, List.length_singleton] at this
    simp only [List.length_cons]
    omega
  · rw [scan_err hb he] at h
    exact absurd (h _ (by simp)) he
  · rw [scan_ok hb he] at h ⊢
    rcases piece_right he with hp | hp
    · have hn : isTok (pieceM i b r).1.k = false := by simp [isTok, hp.1]
      have : keptOf isTok L ((pieceM i b r).1 :: scan (i + (pieceM i b r).2) (List.drop (pieceM i b r).2 (b :: r))) = [] := by
        rw [hp.2.2.1, List.drop_length, scan_nil']
        simp [keptOf, hn]
      rw [this]
      simp [joinTok]
    · have hn : isTok (pieceM i b r).1.k = true := by simp [isTok, hp.1]
      have hrt : rightM (tokOf L (pieceM i b r).1) = true := right_of hp.2.1 hp.1
      have hs : scan i ((tokOf L (pieceM i b r).1).s ++ List.drop (pieceM i b r).2 (b :: r)) = (pieceM i b r).1 :: scan (i + (pieceM i b r).2) (List.drop (pieceM i b r).2 (b :: r)) := by
        have : (tokOf L (pieceM i b r).1).s ++ List.drop (pieceM i b r).2 (b :: r) = b :: r := by
          simp only [tokOf]
          rw [(piece_text he).1, List.take_append_drop]
        rw [this, scan_ok hb he]
      have hfit := (fits_of_scan hrt hs he rfl rfl).1
      have hlen := piece_len he
      have hle := pieceM_len i b r
      have ih := (ih (fun p hp => h p (by simp [hp])) (some (tokOf L (pieceM i b r).1)) (fun a ha => by cases ha; exact hrt)).2 _ rfl hfit
      have hk : keptOf isTok L ((pieceM i b r).1 :: scan (i + (pieceM i b r).2) (List.drop (pieceM i b r).2 (b :: r))) = tokOf L (pieceM i b r).1 :: keptOf isTok L (scan (i + (pieceM i b r).2) (List.drop (pieceM i b r).2 (b :: r))) := by
        simp [keptOf, hn]
      rw [hk]
      rw [List.length_drop] at ih
      simp only [joinTok, List.length_append]
      have hts : (tokOf L (pieceM i b r).1).s.length = (pieceM i b r).2 := hlen
      refine ⟨?_, fun a ha hfa => ?_⟩
      · have : (sepM needsM o (tokOf L (pieceM i b r).1)).length ≤ o.toList.length := by
          cases o with
          | none => simp [sepM]
          | some a => simp only [sepM, Option.toList, List.length_singleton]; split <;> simp
        omega
      · subst ha
        have hfa' : fits a.s (tokOf L (pieceM i b r).1).s := by
          have e : b :: r = (tokOf L (pieceM i b r).1).s ++ List.drop (pieceM i b r).2 (b :: r) := by
            simp only [tokOf]
            rw [(piece_text he).1, List.take_append_drop]
          rw [e] at hfa
          exact (fits_ext _ (right_ne hrt)).1 hfa
        have hno := (needs_fits (ho a rfl) hrt).2 hfa'
        simp only [sepM, hno, Bool.false_eq_true, if_false, List.length_nil]
        omega
theorem kept_right {L : Int} {u : List UInt8} (h : ∀ p ∈ scan 0 u, p.e = 0) : ∀ t ∈ keptOf isTok L (scan 0 u), rightM t = true := by
  intro t ht
  obtain ⟨_, p, hp, hw, rfl⟩ := keptOf_line ht
  have h6 : p.k ≠ 6 := by simpa [isTok] using hw
  exact right_of (scan_right 0 u p hp (h p hp) h6) h6
theorem allToks_right {L : Int} {ls : List (List UInt8)} (h : ∀ x ∈ ls, errOf (scanM x) = none) : ∀ t ∈ allToks isTok L ls, rightM t = true := by
  intro t ht
  obtain ⟨j, x, hx, hm⟩ := allToks_mem isTok ls L t ht
  exact kept_right (errOf_none (h x (List.mem_of_getElem? hx))) t hm
theorem tight_lines : ∀ (ls : List (List UInt8)) (L : Int) (o : Option Tok), (∀ x ∈ ls, errOf (scanM x) = none) → (∀ a, o = some a → rightM a = true) → ((joinTok needsM o (allToks isTok L ls)).length : Int) ≤ bytesM ls
  | [], L, o, _, _ => by simp [allToks, joinTok, bytesM]
  | x :: ls, L, o, h, ho => by
    have h1 := (tight_line L 0 x (errOf_none (h x (by simp))) o ho).1
    have h2 := tight_lines ls (L + 1) ((keptOf isTok L (scanM x)).getLast?.or o) (fun y hy => h y (by simp [hy])) (fun a ha => by
      cases hg : (keptOf isTok L (scanM x)).getLast? with
      | none => rw [hg] at ha; exact ho a (by simpa using ha)
      | some z =>
        rw [hg] at ha
        cases ha
        exact kept_right (errOf_none (h x (by simp))) _ (List.mem_of_getLast? hg))
    rw [scanM_eq] at h2
    simp only [allToks, scanM_eq, joinTok_append, List.length_append]
    have h3 : o.toList.length ≤ 1 := by cases o <;> simp
    simp only [bytesM, List.map_cons, List.sum_cons] at h2 ⊢
    push_cast
    omega
/-- The shortest text of a text's tokens is not longer. -/
theorem tight_len {s : List UInt8} (h0 : firstErr 1 (splitL 10 s) = none) : (joinTok needsM none (allToks isTok 1 (splitL 10 s))).length ≤ s.length := by
  have hall := firstErr_none h0
  have hb := bytesM_split 10 s
  have hf := splitL_front s
  rw [hf] at hall hb ⊢
  have h1 := (tight_line 1 0 (headLn s) (errOf_none (hall _ (by simp))) none (fun a ha => by cases ha)).1
  have h2 := tight_lines (tailLns s) (1 + 1) ((keptOf isTok 1 (scanM (headLn s))).getLast?.or none) (fun y hy => hall y (by simp [hy])) (fun a ha => by
    have hg : (keptOf isTok 1 (scanM (headLn s))).getLast? = some a := by simpa using ha
    exact kept_right (errOf_none (hall _ (by simp))) _ (List.mem_of_getLast? hg))
  rw [scanM_eq] at h2
  simp only [allToks, scanM_eq, joinTok_append, List.length_append]
  simp only [Option.toList, List.length_nil, Nat.add_zero] at h1
  simp only [bytesM, List.map_cons, List.sum_cons] at h2 hb
  omega
end Go.Plane
end
section
set_option linter.unusedVariables false
set_option linter.unusedSimpArgs false
set_option maxRecDepth 100000
set_option maxHeartbeats 4000000
namespace Go.Plane
open Go Go.Proofs
attribute [local irreducible] wops wio wic wdt wdb onOut
theorem tokensM_6000 (s : List UInt8) : (tokensM s).1.length ≤ 6000 := by
  unfold tokensM
  split
  · simp
  · split
    · simp
    · rename_i h1 h2
      rw [readM_eq] at h2 ⊢
      cases hf : firstErr 1 (splitL 10 s) with
      | some e => simp
      | none =>
        rw [hf] at h2
        simp only [List.nil_append, true_and] at h2 ⊢
        omega
def sameM (a b : List UInt8) : Bool × Int :=
  if (tokensM a).2.2.2 ≠ 0 then (false, (tokensM a).2.2.2) else if (tokensM b).2.2.2 ≠ 0 then (false, (tokensM b).2.2.2) else (sameK (tokensM a).1 (tokensM b).1, 0)
theorem f_Same (a b : List UInt8) (ha : a.length ≤ 4294967296) (hb : b.length ≤ 4294967296) : F Γd 38 [.d (.str a), .d (.str b)] (.tup [.d (.bool (sameM a b).1), .d (.int .i64 (sameM a b).2)]) := by
  refine fn_of c38 rfl (by simp only [Env.of, List.zipIdx, List.map]; rfl) ?_
  have h1 := f_Tokens a ha
  have h2 := f_Tokens b hb
  have h3 := f_EqualFunc (tokensM a).1 (tokensM b).1 (by have := tokensM_6000 a; omega) (by have := tokensM_6000 b; omega)
  by_cases he : (tokensM a).2.2.2 = 0
  case neg =>
    have : sameM a b = (false, (tokensM a).2.2.2) := by unfold sameM; rw [if_pos he]
    rw [this]
    generalize tokensM a = A at *
    repeat' (first | ((with_reducible refine wcm ?_); first | refine cF (h1) ?_) | refine dr ?_ | (refine ds ?_ ?_ <;> intro hb) | ((with_reducible refine dbm ?_); first | exact db_nil | refine dbc ?_ ?_) | ((with_reducible refine natle ?_); first | assumption | omega | (simp; omega)))
    all_goals (simp; done)
  by_cases hf : (tokensM b).2.2.2 = 0
  case neg =>
    have : sameM a b = (false, (tokensM b).2.2.2) := by unfold sameM; rw [if_neg (by simp [he]), if_pos hf]
    rw [this]
    generalize tokensM a = A at *
    generalize tokensM b = B at *
    repeat' (first | ((with_reducible refine wcm ?_); first | refine cF (h1) ?_ | refine cF (h2) ?_) | refine dr ?_ | (refine ds ?_ ?_ <;> intro hb) | ((with_reducible refine dbm ?_); first | exact db_nil | refine dbc ?_ ?_) | ((with_reducible refine natle ?_); first | assumption | omega | (simp; omega)))
    all_goals (simp; done)
  have : sameM a b = (sameK (tokensM a).1 (tokensM b).1, 0) := by unfold sameM; rw [if_neg (by simp [he]), if_neg (by simp [hf])]
  rw [this]
  generalize tokensM a = A at *
  generalize tokensM b = B at *
  repeat' (first | ((with_reducible refine wcm ?_); first | refine cF (h1) ?_ | refine cF (h2) ?_ | refine cF (h3) ?_) | refine dr ?_ | (refine ds ?_ ?_ <;> intro hb) | ((with_reducible refine dbm ?_); first | exact db_nil | refine dbc ?_ ?_) | ((with_reducible refine natle ?_); first | assumption | omega | (simp; omega)))
  all_goals (simp; done)
theorem sum_le (l : List Tok) (B : Nat) (h : ∀ t ∈ l, t.s.length ≤ B) : (l.map fun t => t.s.length + 1).sum ≤ l.length * (B + 1) := by
  induction l with
  | nil => simp
  | cons t l ih =>
    have h1 := ih (fun u hu => h u (by simp [hu]))
    have h2 := h t (by simp)
    simp only [List.map_cons, List.sum_cons, List.length_cons, Nat.succ_mul]
    omega
theorem writeM_ok {bl : Tok → Tok → Bool} {l : List Tok} (h6 : l.length ≤ 6000) (hr : ∀ t ∈ l, rightM t = true) (hl : (joinTok bl none l).length ≤ 20000) : writeM bl l = (joinTok bl none l, 0) := by
  unfold writeM
  rw [if_neg (by omega), if_neg, if_neg (by omega)]
  rw [Bool.not_eq_true, List.any_eq_false]
  intro t ht
  rw [hr t ht]
  simp
/-- **LexTightest.** -/
theorem law_Tightest (s : List UInt8) : F Γd 10 [.d (.str s)] (.d (.bool true)) := by
  refine fn_of c10 rfl (by simp only [Env.of, List.zipIdx, List.map]; rfl) ?_
  have hsan := f_sanity
  by_cases hs : 400 < s.length
  · repeat' (first | ((with_reducible refine wcm ?_); first | refine cF (hsan) ?_) | refine dr ?_ | (refine ds ?_ ?_ <;> intro hb) | ((with_reducible refine dbm ?_); first | exact db_nil | refine dbc ?_ ?_) | ((with_reducible refine natle ?_); first | assumption | omega | (simp; omega)))
    all_goals (simp; done)
  have hT := f_Tokens s (by omega)
  have hTe := tokensM_eq (s := s) (by omega)
  have hTl := tokensM_len (s := s) (by omega)
  cases hfe : firstErr 1 (splitL 10 s) with
  | some e =>
    rw [hfe] at hTe
    rw [hTe] at hT
    have hne := firstErr_ne _ _ _ hfe
    simp only [readP, toksD, List.map_nil] at hT
    clear hTe hTl
    repeat' (first | ((with_reducible refine wcm ?_); first | refine cF (hT) ?_ | refine cF (hsan) ?_) | refine dr ?_ | (refine ds ?_ ?_ <;> intro hb) | ((with_reducible refine dbm ?_); first | exact db_nil | refine dbc ?_ ?_) | ((with_reducible refine natle ?_); first | assumption | omega | (simp; omega)))
    all_goals (simp; done)
  | none =>
    rw [hfe] at hTe
    rw [hTe] at hT hTl
    simp only at hTl
    have hright := allToks_right (L := 1) (firstErr_none hfe)
    have hlen := tight_len hfe
    have htl : ∀ t ∈ allToks isTok 1 (splitL 10 s), t.s.length ≤ 400 := fun t ht => by
      obtain ⟨n, _, _, _, h4⟩ := tok_of hfe ht
      omega
    have hsum := sum_le _ 400 htl
    have hW := f_Tight (allToks isTok 1 (splitL 10 s)) (by omega) (by omega) (fun t ht => by have := htl t ht; omega)
    rw [writeM_ok (by omega) hright (by omega)] at hW
    have hjt := tokens_join (bl := needsM) (fun _ _ _ _ h => h) hright (by omega) (by omega)
    have hS := f_Same s (joinTok needsM none (allToks isTok 1 (splitL 10 s))) (by omega) (by omega)
    have hsm : sameM s (joinTok needsM none (allToks isTok 1 (splitL 10 s))) = (true, 0) := by
      unfold sameM
      rw [hTe, hjt.1]
      simp only [ne_eq, not_true, if_false]
      congr 1
      exact decide_eq_true hjt.2.symm
    rw [hsm] at hS
    simp only [readP, textP] at hT hW hS
    clear hsm hjt hsum htl hright hTe hfe
    generalize joinTok needsM none (allToks isTok 1 (splitL 10 s)) = w at *
    generalize allToks isTok 1 (splitL 10 s) = l at *
    repeat' (first | ((with_reducible refine wcm ?_); first | refine cF (hT) ?_ | refine cF (hW) ?_ | refine cF (hS) ?_ | refine cF (hsan) ?_) | refine dr ?_ | (refine ds ?_ ?_ <;> intro hb) | ((with_reducible refine dbm ?_); first | exact db_nil | refine dbc ?_ ?_) | ((with_reducible refine natle ?_); first | assumption | omega | (simp; omega)))
    all_goals (simp; done)
end Go.Plane
end
section
set_option linter.unusedVariables false
set_option linter.unusedSimpArgs false
set_option maxRecDepth 100000
set_option maxHeartbeats 4000000
namespace Go.Plane
open Go Go.Proofs
attribute [local irreducible] wops wio wic wdt wdb onOut
theorem tokensM_ok {u : List UInt8} (h10 : 10 ∉ u) (he : (tokensM u).2.2.2 = 0) : (∀ p ∈ scan 0 u, p.e = 0) ∧ (tokensM u).1 = keptOf isTok 1 (scan 0 u) := by
  unfold tokensM at he ⊢
  split at he
  · cases he
  · rename_i h1
    split at he
    · cases he
    · rename_i h2
      rw [if_neg h1, if_neg h2]
      rw [splitL_one h10, readM_eq] at he ⊢
      cases hf : errOf (scanM u) with
      | some p =>
        simp only [firstErr, hf] at he
        have := List.find?_some hf
        simp [he] at this
      | none =>
        simp only [firstErr, hf, allToks, List.nil_append, List.append_nil]
        exact ⟨errOf_none hf, rfl⟩
theorem joinTok_mono (bl : Tok → Tok → Bool) : ∀ (l : List Tok) (o : Option Tok), (joinTok bl o l).length ≤ (joinTok (fun _ _ => true) o l).length
  | [], _ => by simp [joinTok]
  | t :: l, o => by
    have ih := joinTok_mono bl l (some t)
    have h2 : (sepM bl o t).length ≤ (sepM (fun _ _ => true) o t).length := by
      cases o with
      | none => simp [sepM]
      | some a => simp only [sepM, if_true]; split <;> simp
    simp only [joinTok, List.length_append]
    omega
theorem joinTok_le (bl : Tok → Tok → Bool) (l : List Tok) (B : Nat) (h : ∀ t ∈ l, t.s.length ≤ B) : (joinTok bl none l).length ≤ l.length * (B + 1) :=
  Nat.le_trans (joinTok_len bl l none) (sum_le l B h)
theorem kt_mem {l m : List Tok} (h : l.map Tok.kt = m.map Tok.kt) : ∀ t ∈ l, ∃ u ∈ m, t.kt = u.kt := by
  intro t ht
  have : t.kt ∈ m.map Tok.kt := by rw [← h]; exact List.mem_map.2 ⟨t, ht, rfl⟩
  obtain ⟨u, hu, he⟩ := List.mem_map.1 this
  exact ⟨u, hu, he.symm⟩
theorem kt_text {a b : Tok} (h : a.kt = b.kt) : a.s = b.s := (Prod.mk.inj h).2
/-- **LexReadsBack.** -/
theorem law_ReadsBack (l : List Tok) : F Γd 7 [.d (.slice (toksD l))] (.d (.bool true)) := by
  refine fn_of c7 rfl (by simp only [Env.of, List.zipIdx, List.map]; rfl) ?_
  have hsan := f_sanity
  have hln := toksD_length l
  by_cases hl : 200 < l.length
  · repeat' (first | ((with_reducible refine wcm ?_); first | refine cF (hsan) ?_) | refine dr ?_ | (refine ds ?_ ?_ <;> intro hb) | ((with_reducible refine dbm ?_); first | exact db_nil | refine dbc ?_ ?_) | ((with_reducible refine natle ?_); first | assumption | omega | (simp; omega)))
    all_goals (simp; done)
  repeat' (first | refine dr ?_ | (refine ds ?_ ?_ <;> intro hb) | ((with_reducible refine dbm ?_); first | exact db_nil | refine dbc ?_ ?_) | ((with_reducible refine natle ?_); first | assumption | omega | (simp; omega)))
  refine LP_for l (fun i _ => [(0, .d (.slice (toksD l))), (25, .d (.slice (toksD l))), (26, .d (.int .i64 l.length)), (27, .d (.int .i64 i))]) (fun _ _ => []) (fun i (_ : Unit) => ∀ y ∈ l.take i, y.s.length ≤ 60) () ?_ ?_ (by simp) ?_ ?_
  · (first | (simp [Env.shr, Env.get, PV.exp, PV.ids, PV.ids.idsL]; done) | simp [Env.shr, Env.get, PV.exp, PV.ids, PV.ids.idsL, *])
  · first | rfl | simp [shrink, Ent.exp, PV.exp, PV.ids]
  · rintro i y _ hy hi hI ih
    have hr := toksD_at hy
    by_cases h9 : 60 < y.s.length
    · clear ih
      repeat' (first | ((with_reducible refine wcm ?_); first | refine cF (hsan) ?_) | refine dr ?_ | (refine ds ?_ ?_ <;> intro hb) | ((with_reducible refine dbm ?_); first | exact db_nil | refine dbc ?_ ?_) | ((with_reducible refine natle ?_); first | assumption | omega | (simp; omega)))
      all_goals (simp; done)
    · have ih := ih () (fun z hz => by
        rw [List.take_add_one, hy, List.mem_append] at hz
        rcases hz with hz | hz
        · exact hI z hz
        · simp at hz; subst hz; omega)
      clear hI
      repeat' (first | refine dr ?_ | (refine ds ?_ ?_ <;> intro hb) | ((with_reducible refine dbm ?_); first | exact db_nil | refine dbc ?_ ?_) | ((with_reducible refine natle ?_); first | assumption | omega | (simp; omega)))
      refine LP_at ?_ ?_ ih
      · (first | (simp [Env.shr, Env.get, PV.exp, PV.ids, PV.ids.idsL]; done) | simp [Env.shr, Env.get, PV.exp, PV.ids, PV.ids.idsL, *])
      · simp [shrink, Ent.exp, PV.exp, PV.ids]
  rintro _ hI
  rw [List.take_length] at hI
  have hsum := sum_le l 60 hI
  have hW := f_Write l (by omega) (by omega) (fun t ht => by have := hI t ht; omega)
  have hTi := f_Tight l (by omega) (by omega) (fun t ht => by have := hI t ht; omega)
  cases hany : l.any (fun t => !rightM t) with
  | true =>
    have hw : ∀ bl, writeM bl l = ([], 1) := fun bl => by unfold writeM; rw [if_neg (by omega), if_pos hany]
    rw [hw] at hW hTi
    simp only [textP] at hW hTi
    clear hI hany hw
    repeat' (first | ((with_reducible refine wcm ?_); first | refine cF (hW) ?_ | refine cF (hTi) ?_ | refine cF (hsan) ?_) | refine dr ?_ | (refine ds ?_ ?_ <;> intro hb) | ((with_reducible refine dbm ?_); first | exact db_nil | refine dbc ?_ ?_) | ((with_reducible refine natle ?_); first | assumption | omega | (simp; omega)))
    all_goals (simp; done)
  | false =>
    have hright : ∀ t ∈ l, rightM t = true := fun t ht => by
      have := List.any_eq_false.1 hany t ht
      simpa using this
    have hjl := joinTok_le needsM l 60 hI
    have hjl2 := joinTok_le (fun _ _ => true) l 60 hI
    have hmono := joinTok_mono needsM l none
    rw [writeM_ok (by omega) hright (by omega)] at hW hTi
    have hj1 := tokens_join (bl := fun _ _ => true) (fun _ _ _ _ h => by cases h) hright (by omega) (by omega)
    have hj2 := tokens_join (bl := needsM) (fun _ _ _ _ h => h) hright (by omega) (by omega)
    have hTS := f_Tokens (joinTok (fun _ _ => true) none l) (by omega)
    have hTT := f_Tokens (joinTok needsM none l) (by omega)
    generalize hA : tokensM (joinTok (fun _ _ => true) none l) = A at *
    generalize hB : tokensM (joinTok needsM none l) = B at *
    obtain ⟨A, A2⟩ := A
    obtain ⟨B, B2⟩ := B
    obtain ⟨rfl, hAk⟩ := hj1
    obtain ⟨rfl, hBk⟩ := hj2
    simp only at hAk hBk
    have hAl : A.length = l.length := by have := congrArg List.length hAk; simpa using this
    have hBl : B.length = l.length := by have := congrArg List.length hBk; simpa using this
    have hBr : ∀ t ∈ B, rightM t = true := fun t ht => by
      obtain ⟨u, hu, he⟩ := kt_mem hBk t ht
      rw [rightM_kt he]; exact hright u hu
    have hBt : ∀ t ∈ B, t.s.length ≤ 60 := fun t ht => by
      obtain ⟨u, hu, he⟩ := kt_mem hBk t ht
      rw [kt_text he]; exact hI u hu
    have hjB : joinTok needsM none B = joinTok needsM none l := joinTok_kt needsM needsM_kt B l none none hBk rfl
    have hBsum := sum_le B 60 hBt
    rw [hBl] at hBsum
    have hTB := f_Tight B (by omega) (by omega) (fun t ht => by have := hBt t ht; omega)
    rw [writeM_ok (by omega) hBr (by rw [hjB]; omega), hjB] at hTB
    have hK1 := r_SameKinds A l (by omega) (by omega)
    have hK2 := r_SameKinds B l (by omega) (by omega)
    have k1 : sameK A l = true := decide_eq_true hAk
    have k2 : sameK B l = true := decide_eq_true hBk
    rw [k1] at hK1
    rw [k2] at hK2
    have hnb : ∀ k, (joinTok needsM none l)[k]? = some 32 → (tokensM ((joinTok needsM none l).take k ++ (joinTok needsM none l).drop (k + 1))).2.2.2 = 0 → sameK (tokensM ((joinTok needsM none l).take k ++ (joinTok needsM none l).drop (k + 1))).1 l = false := fun k hk he => by
      have hno := joinTok_bytes (bl := needsM) l none hright
      obtain ⟨h0, h1⟩ := tokensM_ok (u := (joinTok needsM none l).take k ++ (joinTok needsM none l).drop (k + 1)) (by
        rw [List.mem_append]
        exact fun h => h.elim (fun h => hno (List.mem_of_mem_take h)) (fun h => hno (List.mem_of_mem_drop h))) he
      apply decide_eq_false
      rw [h1, kept_kts]
      exact no_blank hright hk h0
    simp only [readP, textP] at hTS hTT hW hTi hTB
    clear hA hB hAk hBk hBr hBt hjB hright hany hI hBsum hsum k1 k2 hjl2
    generalize joinTok (fun _ _ => true) none l = S at *
    generalize joinTok needsM none l = w at *
    repeat' (first | ((with_reducible refine wcm ?_); first | refine cF (hW) ?_ | refine cF (hTi) ?_ | refine cF (hTS) ?_ | refine cF (hTT) ?_ | refine cF (hTB) ?_ | refine cF (hK1) ?_ | refine cF (hK2) ?_) | refine dr ?_ | (refine ds ?_ ?_ <;> intro hb) | ((with_reducible refine dbm ?_); first | exact db_nil | refine dbc ?_ ?_) | ((with_reducible refine natle ?_); first | assumption | omega | (simp; omega)))
    refine LP_for w (fun k _ => [(0, .d (.slice (toksD l))), (7, .d (.str w)), (17, .d (.int .i64 k))])
      (fun _ _ => [.box 23 [.d (.int .i64 0), .d (.int .i64 0)], .box 23 [.d (.int .i64 0), .d (.int .i64 0)]]) (fun _ (_ : Unit) => True) () ?_ ?_ trivial ?_ ?_
    · (first | (simp [Env.shr, Env.get, PV.exp, PV.ids, PV.ids.idsL]; done) | simp [Env.shr, Env.get, PV.exp, PV.ids, PV.ids.idsL, *])
    · first | rfl | simp [shrink, Ent.exp, PV.exp, PV.ids]
    · rintro k b _ hb hk _ ih
      have ih := ih () trivial
      by_cases h32 : b = 32
      · subst h32
        have hbn : ((32 : UInt8).toNat : Int) = 32 := rfl
        have hnb := hnb k hb
        have hul : (w.take k ++ w.drop (k + 1)).length ≤ 20000 := by simp; omega
        have hU := f_Tokens (w.take k ++ w.drop (k + 1)) (by omega)
        have hu6 := tokensM_6000 (w.take k ++ w.drop (k + 1))
        have e1 : (w.take k).length ≤ 20000 := by simp; omega
        have e2 : (w.drop (k + 1)).length ≤ 20000 := by simp; omega
        have hKU := r_SameKinds (tokensM (w.take k ++ w.drop (k + 1))).1 l (by omega) (by omega)
        have hkk : ((k : Int) + 1).toNat = k + 1 := by omega
        have e3 : (w.drop ((k : Int) + 1).toNat).length ≤ 20000 := by rw [hkk]; exact e2
        have hU2 := hU
        rw [← hkk] at hU2
        clear hkk
        generalize tokensM (w.take k ++ w.drop (k + 1)) = U at *
        by_cases hue : U.2.2.2 = 0
        · rw [hnb hue] at hKU
          simp only [readP] at hU hU2
          clear hnb
          repeat' (first | ((with_reducible refine wcm ?_); first | refine cF (hU) ?_ | refine cF (hU2) ?_ | refine cF (hKU) ?_) | refine dr ?_ | (refine ds ?_ ?_ <;> intro hb) | ((with_reducible refine dbm ?_); first | exact db_nil | refine dbc ?_ ?_) | ((with_reducible refine natle ?_); first | assumption | omega | (simp; omega)))
          all_goals
            refine LP_at ?_ ?_ ih
            · (first | (simp [Env.shr, Env.get, PV.exp, PV.ids, PV.ids.idsL]; done) | simp [Env.shr, Env.get, PV.exp, PV.ids, PV.ids.idsL, *])
            · simp [shrink, Ent.exp, PV.exp, PV.ids]
        · simp only [readP] at hU hU2
          clear hnb hKU
          repeat' (first | ((with_reducible refine wcm ?_); first | refine cF (hU) ?_ | refine cF (hU2) ?_) | refine dr ?_ | (refine ds ?_ ?_ <;> intro hb) | ((with_reducible refine dbm ?_); first | exact db_nil | refine dbc ?_ ?_) | ((with_reducible refine natle ?_); first | assumption | omega | (simp; omega)))
          all_goals
            refine LP_at ?_ ?_ ih
            · (first | (simp [Env.shr, Env.get, PV.exp, PV.ids, PV.ids.idsL]; done) | simp [Env.shr, Env.get, PV.exp, PV.ids, PV.ids.idsL, *])
            · simp [shrink, Ent.exp, PV.exp, PV.ids]
      · have hbn : (b.toNat : Int) ≠ 32 := by
          have := byte_eq b 32 (by decide)
          rw [Bool.eq_iff_iff, beq_iff_eq, beq_iff_eq] at this
          exact fun h => h32 (this.1 h)
        clear hnb h32
        repeat' (first | refine dr ?_ | (refine ds ?_ ?_ <;> intro hb) | ((with_reducible refine dbm ?_); first | exact db_nil | refine dbc ?_ ?_) | ((with_reducible refine natle ?_); first | assumption | omega | (simp; omega)))
        refine LP_at ?_ ?_ ih
        · (first | (simp [Env.shr, Env.get, PV.exp, PV.ids, PV.ids.idsL]; done) | simp [Env.shr, Env.get, PV.exp, PV.ids, PV.ids.idsL, *])
        · simp [shrink, Ent.exp, PV.exp, PV.ids]
    · rintro _ _
      clear hnb
      repeat' (first | ((with_reducible refine wcm ?_); first | refine cF (hsan) ?_) | refine dr ?_ | (refine ds ?_ ?_ <;> intro hb) | ((with_reducible refine dbm ?_); first | exact db_nil | refine dbc ?_ ?_) | ((with_reducible refine natle ?_); first | assumption | omega | (simp; omega)))
      all_goals (simp; done)
end Go.Plane
end
section
set_option linter.unusedVariables false
set_option linter.unusedSimpArgs false
namespace Go.Plane
open Go Go.Proofs
/-! ### A text read as a whole -/
theorem headLn_rest : ∀ v : List UInt8, ∃ r, v = headLn v ++ r ∧ ∀ c, r.head? = some c → c = 10
  | [] => ⟨[], by simp [headLn, splitL], by simp⟩
  | b :: v => by
    by_cases hb : b = 10
    · subst hb
      exact ⟨10 :: v, by simp [headLn, splitL_cons_eq], by simp⟩
    · obtain ⟨r, h1, h2⟩ := headLn_rest v
      refine ⟨r, ?_, h2⟩
      obtain ⟨x, q, e1, e2⟩ := splitL_cons_ne hb v
      have h3 : headLn (b :: v) = b :: x := by unfold headLn; rw [e2]; rfl
      have h4 : headLn v = x := by unfold headLn; rw [e1]; rfl
      rw [h3, List.cons_append, ← h4, ← h1]
theorem headLn_cons {b : UInt8} (hb : b ≠ 10) (v : List UInt8) : headLn (b :: v) = b :: headLn v := by
  obtain ⟨x, q, e1, e2⟩ := splitL_cons_ne hb v
  unfold headLn
  rw [e1, e2]
  rfl
theorem headLn_lf (v : List UInt8) : headLn (10 :: v) = [] := by simp [headLn, splitL_cons_eq]
theorem headLn_app {w : List UInt8} (hw : 10 ∉ w) (v : List UInt8) : headLn (w ++ v) = w ++ headLn v := by
  induction w with
  | nil => rfl
  | cons b w ih =>
    simp only [List.mem_cons, not_or] at hw
    rw [List.cons_append, headLn_cons (fun h => hw.1 h.symm), ih hw.2]
    rfl
theorem lines_app {u w : List UInt8} (hw : 10 ∉ w) : headLns (u ++ w) = headLns u ∧ lastLn (u ++ w) = lastLn u ++ w := by
  have h : splitL 10 (u ++ w) = headLns u ++ [lastLn u ++ w] := by
    rw [splitL_append, splitL_one (by simp only [List.mem_append, not_or]; exact ⟨lastLn_no u, hw⟩)]
  have h2 := splitL_ends (u ++ w)
  rw [h] at h2
  have h3 := List.append_inj' h2 rfl
  exact ⟨h3.1.symm, (List.cons.inj h3.2).1.symm⟩
theorem lines_lf (u : List UInt8) : headLns (u ++ [10]) = headLns u ++ [lastLn u] ∧ lastLn (u ++ [10]) = [] := by
  have h : splitL 10 (u ++ [10]) = headLns u ++ [lastLn u] ++ [[]] := by
    have := splitL_LF u []
    rw [List.append_nil] at this
    rw [this, splitL_ends u]
    simp [splitL]
  have h2 := splitL_ends (u ++ [10])
  rw [h] at h2
  have h3 := List.append_inj' h2 rfl
  exact ⟨h3.1.symm, (List.cons.inj h3.2).1.symm⟩
theorem prefix_headLn {x v : List UInt8} (hx : 10 ∉ x) : x.isPrefixOf v = x.isPrefixOf (headLn v) := by
  obtain ⟨r, h1, h2⟩ := headLn_rest v
  rw [Bool.eq_iff_iff, List.isPrefixOf_iff_prefix, List.isPrefixOf_iff_prefix]
  constructor
  · intro h
    by_cases hl : x.length ≤ (headLn v).length
    · exact List.prefix_of_prefix_length_le h ⟨r, h1.symm⟩ hl
    · exfalso
      obtain ⟨w, hw⟩ := h
      have hr : r ≠ [] := by
        rintro rfl
        have := congrArg List.length h1
        have := congrArg List.length hw
        simp only [List.length_append, List.length_nil] at *
        omega
      cases r with
      | nil => exact hr rfl
      | cons c r =>
        have hc := h2 c rfl
        subst hc
        have h3 : x[(headLn v).length]? = some 10 := by
          have h4 : (x ++ w)[(headLn v).length]? = some 10 := by
            rw [hw]
            have : ∀ (a b : List UInt8), v = a ++ 10 :: b → v[a.length]? = some 10 := by rintro a b rfl; simp
            exact this _ _ h1
          rwa [List.getElem?_append_left (by omega)] at h4
        exact hx (List.mem_of_getElem? h3)
  · exact fun h => h.trans ⟨r, h1.symm⟩
theorem signM_headLn (v : List UInt8) : signM v = signM (headLn v) := by
  have key : ∀ (L : List (List UInt8)), (∀ z ∈ L, 10 ∉ z) → L.find? (fun z => z.isPrefixOf v) = L.find? (fun z => z.isPrefixOf (headLn v)) := by
    intro L
    induction L with
    | nil => intro _; rfl
    | cons z L ih =>
      intro h
      have hz := h z (List.mem_cons_self ..)
      have ih := ih (fun w hw => h w (List.mem_cons_of_mem _ hw))
      rw [List.find?_cons, List.find?_cons, prefix_headLn hz, ih]
  unfold signM
  rw [key signs (fun z hz hc => (sign_bytes hz 10 hc).2 rfl)]
theorem takeWhile_headLn (v : List UInt8) : v.takeWhile isPart = (headLn v).takeWhile isPart := by
  obtain ⟨r, h1, h2⟩ := headLn_rest v
  conv => lhs; rw [h1]
  generalize headLn v = x at *
  induction x with
  | nil =>
    cases r with
    | nil => rfl
    | cons c r =>
      have := h2 c rfl
      subst this
      rw [List.nil_append, List.takeWhile_cons, if_neg (by decide)]
      rfl
  | cons b x ih =>
    rw [List.cons_append, List.takeWhile_cons, List.takeWhile_cons]
    split
    · congr 1
      have : ∀ (y : List UInt8), (y ++ r).takeWhile isPart = y.takeWhile isPart := by
        intro y
        induction y with
        | nil =>
          cases r with
          | nil => rfl
          | cons c r =>
            have := h2 c rfl
            subst this
            rw [List.nil_append, List.takeWhile_cons, if_neg (by decide)]
            rfl
        | cons b y ih => rw [List.cons_append, List.takeWhile_cons, List.takeWhile_cons, ih]
      exact this x
    · rfl

/-- Tokens, comments, and the first error: its place and what it is. -/
def lexedR (s : List UInt8) : List Tok × List Tok × Int × Int × Int := match firstErr 1 (splitL 10 s) with
  | some e => ([], [], e.1, e.2.1, e.2.2)
  | none => (allToks isTok 1 (splitL 10 s), allToks isNote 1 (splitL 10 s), 0, 0, 0)
/-- What has been read: what stands ahead, what is left, the tokens, the comments. -/
def ST (s u v : List UInt8) (L N : List Tok) : Prop :=
  s = u ++ v ∧ firstErr 1 (headLns u) = none ∧ L.length ≤ u.length ∧ N.length ≤ u.length ∧ ∃ done, errOf done = none ∧ scan 0 (lastLn u ++ headLn v) = done ++ scan (lastLn u).length (headLn v) ∧
    L = allToks isTok 1 (headLns u) ++ keptOf isTok (1 + ((headLns u).length : Int)) done ∧ N = allToks isNote 1 (headLns u) ++ keptOf isNote (1 + ((headLns u).length : Int)) done
theorem ST_zero (s : List UInt8) : ST s [] s [] [] :=
  ⟨rfl, rfl, by simp, by simp, [], rfl, by simp [lastLn, splitL], by simp [headLns, splitL, allToks, keptOf], by simp [headLns, splitL, allToks, keptOf]⟩
theorem headLns_cons {s u v : List UInt8} (h : s = u ++ v) : splitL 10 s = headLns u ++ ((lastLn u ++ headLn v) :: tailLns v) := by
  rw [h, splitL_append]
  congr 1
  rw [splitL_behind v (lastLn u), splitL_one (by simp only [List.mem_append, not_or]; exact ⟨lastLn_no u, headLn_no v⟩)]
  rfl
theorem ST_lf {s u v : List UInt8} {L N : List Tok} (h : ST s u (10 :: v) L N) : ST s (u ++ [10]) v L N := by
  obtain ⟨h1, h2, h3, h4, done, h5, h6, h7, h8⟩ := h
  obtain ⟨e1, e2⟩ := lines_lf u
  rw [headLn_lf, scan_nil', List.append_nil, List.append_nil] at h6
  have he : errOf (scanM (lastLn u)) = none := by rw [scanM_eq, h6]; exact h5
  refine ⟨by rw [h1]; simp, ?_, by simp; omega, by simp; omega, [], rfl, by rw [e2]; simp, ?_, ?_⟩
  · rw [e1, firstErr_append, h2]
    simp only [firstErr, he]
    rfl
  · rw [e1, allToks_append, h7]
    simp [allToks, scanM_eq, h6, keptOf]
  · rw [e1, allToks_append, h8]
    simp [allToks, scanM_eq, h6, keptOf]
theorem ST_blank {s u v : List UInt8} {L N : List Tok} (h : ST s u (32 :: v) L N) : ST s (u ++ [32]) v L N := by
  obtain ⟨h1, h2, h3, h4, done, h5, h6, h7, h8⟩ := h
  obtain ⟨e1, e2⟩ := lines_app (u := u) (w := [32]) (by decide)
  rw [headLn_cons (by decide), scan_blank] at h6
  refine ⟨by rw [h1]; simp, by rw [e1]; exact h2, by simp; omega, by simp; omega, done, h5, ?_, by rw [e1]; exact h7, by rw [e1]; exact h8⟩
  rw [e2, List.append_assoc, List.length_append]
  exact h6
theorem keptOf_append (want : Int → Bool) (l : Int) (a b : List Pc) : keptOf want l (a ++ b) = keptOf want l a ++ keptOf want l b := by
  simp [keptOf]
theorem errOf_append {a b : List Pc} (h : errOf a = none) : errOf (a ++ b) = errOf b := by
  unfold errOf at *
  rw [List.find?_append, h, Option.none_or]
/-- Behind a piece of no error. -/
theorem ST_piece {s u v : List UInt8} {b : UInt8} {L N : List Tok} (h : ST s u (b :: v) L N) (h10 : b ≠ 10) (h32 : b ≠ 32) (he : (pieceM (lastLn u).length b (headLn v)).1.e = 0) :
    ST s (u ++ (b :: v).take (pieceM (lastLn u).length b (headLn v)).2) ((b :: v).drop (pieceM (lastLn u).length b (headLn v)).2)
      (L ++ if (pieceM (lastLn u).length b (headLn v)).1.k = 6 then [] else [tokOf (1 + ((headLns u).length : Int)) (pieceM (lastLn u).length b (headLn v)).1])
      (N ++ if (pieceM (lastLn u).length b (headLn v)).1.k = 6 then [tokOf (1 + ((headLns u).length : Int)) (pieceM (lastLn u).length b (headLn v)).1] else []) := by
  obtain ⟨h1, h2, h3, h4, done, h5, h6, h7, h8⟩ := h
  rw [headLn_cons h10] at h6
  have hn0 := pieceM_pos he
  have hnl := pieceM_len (lastLn u).length b (headLn v)
  rw [scan_ok h32 he] at h6
  generalize hp : pieceM (lastLn u).length b (headLn v) = pm at *
  obtain ⟨r, hr1, hr2⟩ := headLn_rest (b :: v)
  rw [headLn_cons h10] at hr1
  have htk : (b :: v).take pm.2 = (b :: headLn v).take pm.2 := by
    conv => lhs; rw [hr1]
    rw [List.take_append_of_le_length hnl]
  have hno : 10 ∉ (b :: v).take pm.2 := by
    rw [htk]
    intro hm
    have := List.mem_of_mem_take hm
    rw [← headLn_cons h10] at this
    exact headLn_no _ this
  obtain ⟨e1, e2⟩ := lines_app (u := u) hno
  have hhl : (b :: v).take pm.2 ++ headLn ((b :: v).drop pm.2) = b :: headLn v := by
    rw [← headLn_app hno, List.take_append_drop, headLn_cons h10]
  have htl : ((b :: v).take pm.2).length = pm.2 := by rw [htk, List.length_take_of_le hnl]
  have hdr : (b :: headLn v).drop pm.2 = headLn ((b :: v).drop pm.2) := by
    have := congrArg (List.drop pm.2) hhl
    rw [List.drop_append, htl, Nat.sub_self, List.drop_of_length_le (by rw [htl]; exact Nat.le_refl _), List.nil_append, List.drop_zero] at this
    exact this.symm
  refine ⟨by rw [h1, List.append_assoc, List.take_append_drop], by rw [e1]; exact h2, ?_, ?_, done ++ [pm.1], errOf_snoc h5 _ he, ?_, ?_, ?_⟩
  · rw [List.length_append, List.length_append, htl]
    split <;> simp <;> omega
  · rw [List.length_append, List.length_append, htl]
    split <;> simp <;> omega
  · rw [e2, List.append_assoc, hhl, h6, hdr, List.length_append, htl, List.append_assoc]
    rfl
  · rw [e1, h7, keptOf_snoc, List.append_assoc]
    congr 2
    by_cases hk : pm.1.k = 6
    · simp [isTok, hk]
    · simp [isTok, hk]
  · rw [e1, h8, keptOf_snoc, List.append_assoc]
    congr 2
    by_cases hk : pm.1.k = 6
    · simp [isNote, hk]
    · simp [isNote, hk]
theorem ST_err {s u v : List UInt8} {b : UInt8} {L N : List Tok} (h : ST s u (b :: v) L N) (h10 : b ≠ 10) (h32 : b ≠ 32) (he : (pieceM (lastLn u).length b (headLn v)).1.e ≠ 0) :
    lexedR s = ([], [], 1 + ((headLns u).length : Int), 1 + (pieceM (lastLn u).length b (headLn v)).1.a, (pieceM (lastLn u).length b (headLn v)).1.e) := by
  obtain ⟨h1, h2, h3, h4, done, h5, h6, h7, h8⟩ := h
  have hs := headLns_cons h1
  rw [headLn_cons h10] at h6 hs
  rw [scan_err h32 he] at h6
  unfold lexedR
  rw [hs, firstErr_append, h2, Option.none_or]
  have : errOf (scanM (lastLn u ++ b :: headLn v)) = some (pieceM (lastLn u).length b (headLn v)).1 := by
    rw [scanM_eq, h6]
    exact errOf_cons h5 _ [] he
  simp only [firstErr, this]
theorem ST_end {s u : List UInt8} {L N : List Tok} (h : ST s u [] L N) : lexedR s = (L, N, 0, 0, 0) := by
  obtain ⟨h1, h2, h3, h4, done, h5, h6, h7, h8⟩ := h
  have hs := headLns_cons h1
  have hh : headLn ([] : List UInt8) = [] := rfl
  have ht : tailLns ([] : List UInt8) = [] := rfl
  rw [hh, scan_nil', List.append_nil, List.append_nil] at h6
  rw [hh, ht, List.append_nil] at hs
  have he : errOf (scanM (lastLn u)) = none := by rw [scanM_eq, h6]; exact h5
  have hf : firstErr 1 (splitL 10 s) = none := by
    rw [hs, firstErr_append, h2]
    simp only [firstErr, he]
    rfl
  unfold lexedR
  rw [hf, hs, allToks_append, allToks_append, h7, h8]
  simp only [allToks, List.append_nil, scanM_eq, h6]

/-! ### The reference's own pieces -/
/-- A comment's bytes, or the place of a byte that it must not have. -/
def noteR (v : List UInt8) (at' : Int) : Int × Int := if badIdx (headLn v) ≥ 0 then (-1, at' + badIdx (headLn v)) else ((headLn v).length, 0)
/-- A token's bytes. -/
def textR (b : UInt8) (v : List UInt8) : List UInt8 := if isPart b then (b :: v).takeWhile isPart else signM (b :: v)
theorem note_piece {a : Int} {b : UInt8} {v : List UInt8} (h10 : b ≠ 10) (h : [45, 45].isPrefixOf (b :: v) = true) :
    pieceM a b (headLn v) = if badIdx (headLn (b :: v)) ≥ 0 then (⟨0, [], a + badIdx (headLn (b :: v)), 2⟩, (headLn (b :: v)).length) else (⟨6, headLn (b :: v), a, 0⟩, (headLn (b :: v)).length) := by
  rw [prefix_headLn (by decide), headLn_cons h10] at h
  unfold pieceM
  rw [if_pos h, headLn_cons h10]
theorem text_piece {a : Int} {b : UInt8} {v : List UInt8} (h10 : b ≠ 10) (h : [45, 45].isPrefixOf (b :: v) = false) :
    (shapeM (textR b v)).2 = (pieceM a b (headLn v)).1.e ∧ ((pieceM a b (headLn v)).1.e = 0 → (pieceM a b (headLn v)).1 = ⟨(shapeM (textR b v)).1, textR b v, a, 0⟩ ∧ (pieceM a b (headLn v)).2 = (textR b v).length) ∧ ((pieceM a b (headLn v)).1.e ≠ 0 → (pieceM a b (headLn v)).1.a = a) := by
  rw [prefix_headLn (by decide), headLn_cons h10] at h
  have htw : (b :: v).takeWhile isPart = (b :: headLn v).takeWhile isPart := by rw [takeWhile_headLn, headLn_cons h10]
  have hsg : signM (b :: v) = signM (b :: headLn v) := by rw [signM_headLn, headLn_cons h10]
  have ht : textR b v = if isPart b then (b :: headLn v).takeWhile isPart else signM (b :: headLn v) := by unfold textR; rw [htw, hsg]
  rw [ht]
  generalize headLn v = x at *
  have hpm : pieceM a b x = if 0 < (List.takeWhile isPart (b :: x)).length ∧ b ≠ 95 then
    (⟨(shapeM ((b :: x).take (List.takeWhile isPart (b :: x)).length)).1, (b :: x).take (List.takeWhile isPart (b :: x)).length, a, (shapeM ((b :: x).take (List.takeWhile isPart (b :: x)).length)).2⟩, (List.takeWhile isPart (b :: x)).length)
    else (⟨5, signM (b :: x), a, if (signM (b :: x)).length = 0 then 2 else 0⟩, (signM (b :: x)).length) := by
    unfold pieceM; rw [if_neg (by rw [h]; simp)]
  rw [hpm]
  clear hpm ht hsg htw h h10
  by_cases hp : isPart b = true
  · rw [if_pos hp]
    have h0 : 0 < (List.takeWhile isPart (b :: x)).length := by rw [List.takeWhile_cons, if_pos hp]; simp
    have htk : (b :: x).take (List.takeWhile isPart (b :: x)).length = List.takeWhile isPart (b :: x) := by
      have := List.takeWhile_prefix isPart (l := b :: x)
      exact (List.prefix_iff_eq_take.1 this).symm
    by_cases h95 : b = 95
    · subst h95
      have hs : signM (95 :: x) = [] := by
        cases hss : signM (95 :: x) with
        | nil => rfl
        | cons c y =>
          exfalso
          obtain ⟨k1, k2⟩ := signM_mem hss (by simp)
          obtain ⟨w, hw⟩ := List.isPrefixOf_iff_prefix.1 k2
          have : c = 95 := by simpa using (List.cons.inj hw).1
          subst this
          have := sign_head k1
          revert this
          decide
      rw [if_neg (by simp), hs]
      have hsh : (shapeM (List.takeWhile isPart (95 :: x))).2 = 2 := by
        have hc : List.takeWhile isPart (95 :: x) = 95 :: List.takeWhile isPart x := by rw [List.takeWhile_cons, if_pos (by decide)]
        rw [hc]
        have hd : isDigit 95 = false := by decide
        have hsm : signM (95 :: List.takeWhile isPart x) ≠ 95 :: List.takeWhile isPart x := by
          intro he
          have := sign_head ((mem_signs 95 _).2 he)
          revert this
          decide
        simp [shapeM, hd, hsm]
      rw [hsh]
      simp
    · rw [if_pos ⟨h0, h95⟩, htk]
      refine ⟨rfl, fun he => ⟨?_, rfl⟩, fun _ => rfl⟩
      simp only at he ⊢
      rw [he]
  · rw [if_neg hp]
    have h0 : (List.takeWhile isPart (b :: x)) = [] := by rw [List.takeWhile_cons, if_neg hp]
    rw [if_neg (by rw [h0]; simp)]
    cases hs : signM (b :: x) with
    | nil => simp [shapeM]
    | cons c y =>
      obtain ⟨k1, k2⟩ := signM_mem hs (by simp)
      have hsh := shape_sign k1
      rw [hsh]
      simp
end Go.Plane
end
section
set_option linter.unusedVariables false
set_option linter.unusedSimpArgs false
set_option maxRecDepth 100000
set_option maxHeartbeats 4000000
namespace Go.Plane
open Go Go.Proofs
attribute [local irreducible] wops wio wic wdt wdb onOut
theorem bad_int (b : UInt8) : isBad b = (decide ((b.toNat : Int) < 32) || decide (126 < (b.toNat : Int))) := by
  unfold isBad
  rw [Bool.eq_iff_iff]
  simp
  omega
theorem badIdx_at {x : List UInt8} {i : Nat} {b : UInt8} (hb : x[i]? = some b) (h1 : isBad b = true) (h0 : ∀ c ∈ x.take i, isBad c = false) : badIdx x = i := by
  have hi := (List.getElem?_eq_some_iff.1 hb).1
  have : x.findIdx? isBad = some i := by
    rw [List.findIdx?_eq_some_iff_getElem]
    refine ⟨hi, ?_, fun j hj => ?_⟩
    · rw [List.getElem?_eq_getElem hi] at hb; cases hb; exact h1
    · rw [h0 _ (by rw [List.mem_take_iff_getElem]; exact ⟨j, by omega, rfl⟩)]; simp
  unfold badIdx
  rw [this]
theorem badIdx_no {x : List UInt8} (h0 : ∀ c ∈ x, isBad c = false) : badIdx x = -1 := by
  have : x.findIdx? isBad = none := List.findIdx?_eq_none_iff.2 h0
  unfold badIdx
  rw [this]
theorem r_note (s u v : List UInt8) (hs : s.length ≤ 1000000000) (h : s = u ++ 45 :: 45 :: v) : F Γd 88 [.d (.str s), .d (.int .i64 u.length)] (pairI (noteR (45 :: 45 :: v) u.length)) := by
  refine fn_of c88 rfl (by simp only [Env.of, List.zipIdx, List.map]; rfl) ?_
  obtain ⟨r, hr1, hr2⟩ := headLn_rest v
  have hh : headLn (45 :: 45 :: v) = 45 :: 45 :: headLn v := by rw [headLn_cons (by decide), headLn_cons (by decide)]
  have hno := headLn_no v
  unfold noteR
  rw [hh]
  clear hh
  generalize headLn v = x at *
  subst hr1
  have hsl : s.length = u.length + (2 + (x.length + r.length)) := by rw [h]; simp; omega
  have hat : ∀ i c, x[i]? = some c → s[u.length + (2 + i)]? = some c := fun i c hc => by
    have hi := (List.getElem?_eq_some_iff.1 hc).1
    rw [h, List.getElem?_append_right (by omega), show u.length + (2 + i) - u.length = i + 1 + 1 by omega, List.getElem?_cons_succ, List.getElem?_cons_succ, List.getElem?_append_left hi]
    exact hc
  have hend : ∀ c, s[u.length + (2 + x.length)]? = some c → c = 10 := fun c hc => by
    rw [h, List.getElem?_append_right (by omega), show u.length + (2 + x.length) - u.length = x.length + 1 + 1 by omega, List.getElem?_cons_succ, List.getElem?_cons_succ, List.getElem?_append_right (by omega), Nat.sub_self] at hc
    exact hr2 c (by rw [List.head?_eq_getElem?]; exact hc)
  clear hr2 h
  repeat' (first | refine dr ?_ | (refine ds ?_ ?_ <;> intro hb) | ((with_reducible refine dbm ?_); first | exact db_nil | refine dbc ?_ ?_) | ((with_reducible refine natle ?_); first | assumption | omega | (simp; omega)))
  refine LP_for x (fun i _ => [(0, .d (.str s)), (1, .d (.int .i64 u.length)), (6, .d (.int .i64 (2 + (i : Int))))]) (fun _ _ => []) (fun i (_ : Unit) => ∀ c ∈ x.take i, isBad c = false) () ?_ ?_ (by simp) ?_ ?_
  · (first | (simp [Env.shr, Env.get, PV.exp, PV.ids, PV.ids.idsL]; done) | simp [Env.shr, Env.get, PV.exp, PV.ids, PV.ids.idsL, *])
  · first | rfl | simp [shrink, Ent.exp, PV.exp, PV.ids]
  · rintro i b _ hb hi hI ih
    have hsb := hat i b hb
    have hsb2 : s[((u.length : Int) + (2 + (i : Int))).toNat]? = some b := by rw [show ((u.length : Int) + (2 + (i : Int))).toNat = u.length + (2 + i) by omega]; exact hsb
    have h10 : (b.toNat : Int) ≠ 10 := fun hc => by
      have hb10 : b = 10 := (byteN b 10 (by decide)).1 hc
      subst hb10
      exact hno (List.mem_of_getElem? hb)
    have hbi := bad_int b
    cases hbad : isBad b with
    | true =>
      have hx : badIdx (45 :: 45 :: x) = ((i + 2 : Nat) : Int) := badIdx_at (i := i + 2) (by simpa using hb) hbad (by
        intro c hc
        simp only [List.take_succ_cons, List.mem_cons] at hc
        rcases hc with rfl | rfl | hc
        · decide
        · decide
        · exact hI c hc)
      rw [hx, if_pos (by omega)]
      rw [hbad] at hbi
      have hor : (b.toNat : Int) < 32 ∨ 126 < (b.toNat : Int) := by
        have := hbi.symm
        simpa using this
      clear ih hI hx hbi hat hend hno
      rcases hor with hor | hor
      · repeat' (first | refine dr ?_ | (refine ds ?_ ?_ <;> intro hb) | ((with_reducible refine dbm ?_); first | exact db_nil | refine dbc ?_ ?_) | ((with_reducible refine natle ?_); first | assumption | omega | (simp; omega)))
        all_goals (simp [pairI]; omega)
      · have hge : ¬ (b.toNat : Int) < 32 := by omega
        repeat' (first | refine dr ?_ | (refine ds ?_ ?_ <;> intro hb) | ((with_reducible refine dbm ?_); first | exact db_nil | refine dbc ?_ ?_) | ((with_reducible refine natle ?_); first | assumption | omega | (simp; omega)))
        all_goals (simp [pairI]; omega)
    | false =>
      rw [hbad] at hbi
      have hnor : ¬(b.toNat : Int) < 32 ∧ ¬126 < (b.toNat : Int) := by
        have := hbi.symm
        simpa using this
      obtain ⟨hn1, hn2⟩ := hnor
      have ih := ih () (fun c hc => by
        rw [List.take_add_one, hb, List.mem_append] at hc
        rcases hc with hc | hc
        · exact hI c hc
        · simp at hc; subst hc; exact hbad)
      clear hI hbi hat hend hno
      repeat' (first | refine dr ?_ | (refine ds ?_ ?_ <;> intro hb) | ((with_reducible refine dbm ?_); first | exact db_nil | refine dbc ?_ ?_) | ((with_reducible refine natle ?_); first | assumption | omega | (simp; omega)))
      refine LP_at ?_ ?_ ih
      · (first | (simp [Env.shr, Env.get, PV.exp, PV.ids, PV.ids.idsL]; done) | simp [Env.shr, Env.get, PV.exp, PV.ids, PV.ids.idsL, *])
        try (push_cast; omega)
      · simp [shrink, Ent.exp, PV.exp, PV.ids]
  · rintro _ hI
    rw [List.take_length] at hI
    have hx : badIdx (45 :: 45 :: x) = -1 := badIdx_no (by
      intro c hc
      simp only [List.mem_cons] at hc
      rcases hc with rfl | rfl | hc
      · decide
      · decide
      · exact hI c hc)
    rw [hx, if_neg (by decide)]
    clear hI hx hat hno
    by_cases hlt : u.length + (2 + x.length) < s.length
    · have hc := List.getElem?_eq_getElem hlt
      have h10 := hend _ hc
      generalize s[u.length + (2 + x.length)] = c at *
      subst h10
      have hsb2 : s[((u.length : Int) + (2 + (x.length : Int))).toNat]? = some 10 := by rw [show ((u.length : Int) + (2 + (x.length : Int))).toNat = u.length + (2 + x.length) by omega]; exact hc
      have hten : ((10 : UInt8).toNat : Int) = 10 := rfl
      clear hend
      repeat' (first | refine dr ?_ | (refine ds ?_ ?_ <;> intro hb) | ((with_reducible refine dbm ?_); first | exact db_nil | refine dbc ?_ ?_) | ((with_reducible refine natle ?_); first | assumption | omega | (simp; omega)))
      all_goals (simp [pairI]; omega)
    · clear hend
      repeat' (first | refine dr ?_ | (refine ds ?_ ?_ <;> intro hb) | ((with_reducible refine dbm ?_); first | exact db_nil | refine dbc ?_ ?_) | ((with_reducible refine natle ?_); first | assumption | omega | (simp; omega)))
      all_goals (simp [pairI]; omega)
theorem r_sign (s u v : List UInt8) (hs : s.length ≤ 1000000000) (h : s = u ++ v) : F Γd 89 [.d (.str s), .d (.int .i64 u.length)] (.d (.str (signM v))) := by
  refine fn_of c89 rfl (by simp only [Env.of, List.zipIdx, List.map]; rfl) ?_
  have hsg := r_signs
  have hln : (strsD signs).length = 22 := by rw [strsD_length]; rfl
  have hsl : s.length = u.length + v.length := by rw [h]; simp
  have hsm : signM v = (signs.find? fun x => x.isPrefixOf v).getD [] := rfl
  have hl2 : ∀ x ∈ signs, x.length ≤ 2 := by decide
  have hl22 : signs.length = 22 := rfl
  rw [hsm]
  generalize signs = L at *
  repeat' (first | ((with_reducible refine wcm ?_); first | refine cF (hsg) ?_) | refine dr ?_ | (refine ds ?_ ?_ <;> intro hb) | ((with_reducible refine dbm ?_); first | exact db_nil | refine dbc ?_ ?_) | ((with_reducible refine natle ?_); first | assumption | omega | (simp; omega)))
  refine LP_for L (fun i _ => [(0, .d (.str s)), (1, .d (.int .i64 u.length)), (5, .d (.slice (strsD L))), (6, .d (.int .i64 i))]) (fun _ _ => []) (fun i (_ : Unit) => ∀ y ∈ L.take i, y.isPrefixOf v = false) () ?_ ?_ (by simp) ?_ ?_
  · (first | (simp [Env.shr, Env.get, PV.exp, PV.ids, PV.ids.idsL]; done) | simp [Env.shr, Env.get, PV.exp, PV.ids, PV.ids.idsL, *])
  · first | rfl | simp [shrink, Ent.exp, PV.exp, PV.ids]
  · rintro i x _ hx hi hI ih
    have hr := strsD_at hx
    have hx2 := hl2 x (List.mem_of_getElem? hx)
    have hsub : u.length + x.length ≤ s.length → ((s.take (u.length + x.length)).drop u.length == x) = x.isPrefixOf v := fun hle => by
      rw [Bool.eq_iff_iff, beq_iff_eq, List.isPrefixOf_iff_prefix, List.prefix_iff_eq_take, h, List.take_append, List.take_of_length_le (by omega), List.drop_append_of_le_length (by omega), List.drop_of_length_le (by omega), List.nil_append, show u.length + x.length - u.length = x.length by omega]
      exact eq_comm
    have htn : ((u.length : Int) + (x.length : Int)).toNat = u.length + x.length := by omega
    clear hsg hl2 h
    by_cases hle : u.length + x.length ≤ s.length
    · replace hsub := hsub hle
      cases hp : x.isPrefixOf v with
      | true =>
        rw [hp, beq_iff_eq] at hsub
        have hf : L.find? (fun x => x.isPrefixOf v) = some x := find_at hx hp hI
        rw [hf]
        clear ih hI hf
        repeat' (first | refine dr ?_ | (refine ds ?_ ?_ <;> intro hb) | ((with_reducible refine dbm ?_); first | exact db_nil | refine dbc ?_ ?_) | ((with_reducible refine natle ?_); first | assumption | omega | (simp; omega)))
        all_goals (simp [*]; done)
      | false =>
        rw [hp] at hsub
        have hne : (s.take (u.length + x.length)).drop u.length ≠ x := fun he => by rw [he] at hsub; simp at hsub
        have ih := ih () (fun y hy => by
          rw [List.take_add_one, hx, List.mem_append] at hy
          rcases hy with hy | hy
          · exact hI y hy
          · simp at hy; subst hy; exact hp)
        clear hI hsub
        repeat' (first | refine dr ?_ | (refine ds ?_ ?_ <;> intro hb) | ((with_reducible refine dbm ?_); first | exact db_nil | refine dbc ?_ ?_) | ((with_reducible refine natle ?_); first | assumption | omega | (simp; omega)))
        all_goals first
          | exact absurd ‹(s.take (u.length + x.length)).drop u.length = x› hne
          | (refine LP_at ?_ ?_ ih
             · (first | (simp [Env.shr, Env.get, PV.exp, PV.ids, PV.ids.idsL]; done) | simp [Env.shr, Env.get, PV.exp, PV.ids, PV.ids.idsL, *])
             · simp [shrink, Ent.exp, PV.exp, PV.ids])
    · have hp : x.isPrefixOf v = false := by
        rw [Bool.eq_false_iff]
        intro hp
        have := (List.isPrefixOf_iff_prefix.1 hp).length_le
        omega
      have ih := ih () (fun y hy => by
        rw [List.take_add_one, hx, List.mem_append] at hy
        rcases hy with hy | hy
        · exact hI y hy
        · simp at hy; subst hy; exact hp)
      clear hI hsub
      repeat' (first | refine dr ?_ | (refine ds ?_ ?_ <;> intro hb) | ((with_reducible refine dbm ?_); first | exact db_nil | refine dbc ?_ ?_) | ((with_reducible refine natle ?_); first | assumption | omega | (simp; omega)))
      all_goals
        refine LP_at ?_ ?_ ih
        · (first | (simp [Env.shr, Env.get, PV.exp, PV.ids, PV.ids.idsL]; done) | simp [Env.shr, Env.get, PV.exp, PV.ids, PV.ids.idsL, *])
        · simp [shrink, Ent.exp, PV.exp, PV.ids]
  · rintro _ hI
    rw [List.take_length] at hI
    have hf : L.find? (fun x => x.isPrefixOf v) = none := List.find?_eq_none.2 (fun x hx => by rw [hI x hx]; simp)
    rw [hf]
    clear hI hf hsg hl2 h
    repeat' (first | refine dr ?_ | (refine ds ?_ ?_ <;> intro hb) | ((with_reducible refine dbm ?_); first | exact db_nil | refine dbc ?_ ?_) | ((with_reducible refine natle ?_); first | assumption | omega | (simp; omega)))
    all_goals (simp [*]; done)
end Go.Plane
end
section
set_option linter.unusedVariables false
set_option linter.unusedSimpArgs false
set_option maxRecDepth 100000
set_option maxHeartbeats 8000000
namespace Go.Plane
open Go Go.Proofs
attribute [local irreducible] wops wio wic wdt wdb onOut
theorem sub_take {s u v : List UInt8} (h : s = u ++ v) (n : Nat) : (s.take (u.length + n)).drop u.length = v.take n := by
  rw [h, List.take_append, List.take_of_length_le (by omega), List.drop_append_of_le_length (by omega), List.drop_of_length_le (by omega), List.nil_append, show u.length + n - u.length = n by omega]
def lexedP (x : List Tok × List Tok × Int × Int × Int) : PV := .agg [.slice (toksD x.1), .slice (toksD x.2.1), .int .i64 x.2.2.1, .int .i64 x.2.2.2.1, .int .i64 x.2.2.2.2]
theorem r_read (s : List UInt8) (hs : s.length ≤ 100000000) : F Γd 57 [.d (.str s)] (lexedP (lexedR s)) := by
  refine fn_of c57 rfl (by simp only [Env.of, List.zipIdx, List.map]; rfl) ?_
  repeat' (first | refine dr ?_ | (refine ds ?_ ?_ <;> intro hb) | ((with_reducible refine dbm ?_); first | exact db_nil | refine dbc ?_ ?_) | ((with_reducible refine natle ?_); first | assumption | omega | (simp; omega)))
  refine LP_ind (α := List UInt8 × List UInt8 × List Tok × List Tok) (fun a => a.2.1.length)
    (fun a => [(0, .d (.str s)), (2, .ptr 0 0), (3, .ptr 1 0), (4, .d (.int .i64 (1 + ((headLns a.1).length : Int)))), (5, .d (.int .i64 ((a.1.length : Int) - (lastLn a.1).length))), (6, .d (.int .i64 a.1.length))])
    (fun a => [.box 67 [.snil, .snil, .d (.int .i64 0), .d (.int .i64 0), .d (.int .i64 0)], .box 67 [.lref 3 a.2.2.1.length, .lref 2 a.2.2.2.length, .d (.int .i64 0), .d (.int .i64 0), .d (.int .i64 0)], .lst (57, 4) (toksD a.2.2.2), .lst (57, 4) (toksD a.2.2.1)])
    (fun a => ST s a.1 a.2.1 a.2.2.1 a.2.2.2) ([], s, [], []) ?_ ?_ (ST_zero s) ?_
  · simp [Env.shr, Env.get, PV.exp, PV.ids, PV.ids.idsL, headLns, lastLn, splitL]
  · first | rfl | simp [shrink, Ent.exp, PV.exp, PV.ids, toksD]
  rintro ⟨u, v, L, N⟩ hST ih
  simp only at hST ih
  apply LP_go
  have hsu := hST.1
  have hLl := hST.2.2.1
  have hNl := hST.2.2.2.1
  have hsl : s.length = u.length + v.length := by rw [hsu]; simp
  have hLd := toksD_length L
  have hNd := toksD_length N
  have hLd2 := toksD_len L
  have hNd2 := toksD_len N
  have hll := bytesM_headLns u
  have hln : (headLns u).length ≤ u.length := by rw [headLns_length]; exact List.count_le_length
  have hcl : (lastLn u).length ≤ u.length := by
    have := bytesM_nonneg (headLns u)
    omega
  clear hll
  cases v with
  | nil =>
    have hend := ST_end hST
    have ht1 : (toksD L).take L.length = toksD L := List.take_of_length_le (by rw [toksD_length]; exact Nat.le_refl _)
    have ht2 : (toksD N).take N.length = toksD N := List.take_of_length_le (by rw [toksD_length]; exact Nat.le_refl _)
    simp only [List.length_nil, Nat.add_zero] at hsl
    rw [hend]
    clear hend hST ih hsu
    repeat' (first | refine dr ?_ | (refine ds ?_ ?_ <;> intro hb) | ((with_reducible refine dbm ?_); first | exact db_nil | refine dbc ?_ ?_) | ((with_reducible refine natle ?_); first | assumption | omega | (simp; omega)))
    all_goals (simp [lexedP, ht1, ht2]; done)
  | cons b v =>
    simp only [List.length_cons] at hsl
    have hsb : s[u.length]? = some b := by rw [hsu]; simp
    by_cases h10 : b = 10
    · subst h10
      have ih := ih (u ++ [10], v, L, N) (ST_lf hST) (by simp)
      obtain ⟨e1, e2⟩ := lines_lf u
      have hten : ((10 : UInt8).toNat : Int) = 10 := rfl
      simp only [e1, e2, List.length_append, List.length_singleton, List.length_nil] at ih
      clear e1 e2 hST hsu
      generalize (headLns u).length = hn at *
      generalize (lastLn u).length = cl at *
      repeat' (first | refine dr ?_ | (refine ds ?_ ?_ <;> intro hb) | ((with_reducible refine dbm ?_); first | exact db_nil | refine dbc ?_ ?_) | ((with_reducible refine natle ?_); first | assumption | omega | (simp; omega)))
      refine LP_at ?_ ?_ ih
      · simp [Env.shr, Env.get, PV.exp, PV.ids, PV.ids.idsL] <;> omega
      · simp [shrink, Ent.exp, PV.exp, PV.ids]
    have hb10 : (b.toNat : Int) ≠ 10 := fun hc => h10 ((byteN b 10 (by decide)).1 hc)
    by_cases h32 : b = 32
    · subst h32
      have ih := ih (u ++ [32], v, L, N) (ST_blank hST) (by simp)
      obtain ⟨e1, e2⟩ := lines_app (u := u) (w := [32]) (by decide)
      have hten : ((32 : UInt8).toNat : Int) = 32 := rfl
      simp only [e1, e2, List.length_append, List.length_singleton, List.length_nil] at ih
      clear e1 e2 hST hsu h10
      generalize (headLns u).length = hn at *
      generalize (lastLn u).length = cl at *
      repeat' (first | refine dr ?_ | (refine ds ?_ ?_ <;> intro hb) | ((with_reducible refine dbm ?_); first | exact db_nil | refine dbc ?_ ?_) | ((with_reducible refine natle ?_); first | assumption | omega | (simp; omega)))
      refine LP_at ?_ ?_ ih
      · simp [Env.shr, Env.get, PV.exp, PV.ids, PV.ids.idsL] <;> omega
      · simp [shrink, Ent.exp, PV.exp, PV.ids]
    have hb32 : (b.toNat : Int) ≠ 32 := fun hc => h32 ((byteN b 32 (by decide)).1 hc)
    have hpn := pieceM_len (lastLn u).length b (headLn v)
    have hST2 : (pieceM (lastLn u).length b (headLn v)).1.e = 0 → headLns (u ++ (b :: v).take (pieceM (lastLn u).length b (headLn v)).2) = headLns u ∧ (lastLn (u ++ (b :: v).take (pieceM (lastLn u).length b (headLn v)).2)).length = (lastLn u).length + (pieceM (lastLn u).length b (headLn v)).2 ∧ ((b :: v).take (pieceM (lastLn u).length b (headLn v)).2).length = (pieceM (lastLn u).length b (headLn v)).2 := fun he => by
      obtain ⟨r, hr1, hr2⟩ := headLn_rest (b :: v)
      rw [headLn_cons h10] at hr1
      have htk : (b :: v).take (pieceM (lastLn u).length b (headLn v)).2 = (b :: headLn v).take (pieceM (lastLn u).length b (headLn v)).2 := by
        conv => lhs; rw [hr1]
        rw [List.take_append_of_le_length hpn]
      have hno : 10 ∉ (b :: v).take (pieceM (lastLn u).length b (headLn v)).2 := by
        rw [htk]
        intro hm
        have := List.mem_of_mem_take hm
        rw [← headLn_cons h10] at this
        exact headLn_no _ this
      obtain ⟨e1, e2⟩ := lines_app (u := u) hno
      have e3 : ((b :: v).take (pieceM (lastLn u).length b (headLn v)).2).length = (pieceM (lastLn u).length b (headLn v)).2 := by rw [htk, List.length_take_of_le hpn]
      exact ⟨e1, by rw [e2, List.length_append, e3], e3⟩
    have hpos : (pieceM (lastLn u).length b (headLn v)).1.e = 0 → 0 < (pieceM (lastLn u).length b (headLn v)).2 := pieceM_pos
    have hnext := fun he => ih (_, (b :: v).drop (pieceM (lastLn u).length b (headLn v)).2, _, _) (ST_piece hST h10 h32 he) (by
      simp only [List.length_drop, List.length_cons]
      have := hpos he
      omega)
    have herr := fun he => ST_err hST h10 h32 he
    clear ih hST hpos
    have hsv : (s.drop u.length) = b :: v := by rw [hsu]; simp
    cases hpre : [45, 45].isPrefixOf (b :: v) with
    | true =>
      obtain ⟨w, hw⟩ := List.isPrefixOf_iff_prefix.1 hpre
      simp only [List.cons_append, List.nil_append, List.cons.injEq] at hw
      obtain ⟨rfl, rfl⟩ := hw
      have hno := r_note s u w (by omega) hsu
      have hpc := note_piece (a := (lastLn u).length) (v := 45 :: w) (by decide : (45 : UInt8) ≠ 10) hpre
      have hs2 : s[((u.length : Int) + 1).toNat]? = some 45 := by
        rw [hsu, show ((u.length : Int) + 1).toNat = u.length + 1 by omega, List.getElem?_append_right (by omega), show u.length + 1 - u.length = 1 by omega]; rfl
      have h45 : ((45 : UInt8).toNat : Int) = 45 := rfl
      have hsubt := fun n => sub_take hsu n
      rw [hpc] at hST2 hnext herr hpn
      unfold noteR at hno
      have hhl : (45 :: 45 :: w).take (headLn (45 :: 45 :: w)).length = headLn (45 :: 45 :: w) := by
        obtain ⟨r, hr1, _⟩ := headLn_rest (45 :: 45 :: w)
        conv => lhs; arg 2; rw [hr1]
        exact List.take_left
      have hhll : (headLn (45 :: 45 :: w)).length ≤ (45 :: 45 :: w).length := by
        obtain ⟨r, hr1, _⟩ := headLn_rest (45 :: 45 :: w)
        have := congrArg List.length hr1
        rw [List.length_append] at this
        omega
      have hbl := badIdx_lt (headLn (45 :: 45 :: w))
      by_cases hbi : badIdx (headLn (45 :: 45 :: w)) ≥ 0
      · rw [if_pos hbi] at hST2 hnext herr hno
        have herr := herr (by simp)
        rw [herr]
        simp only [pairI] at hno
        generalize badIdx (headLn (45 :: 45 :: w)) = bi at *
        simp only [List.length_cons] at hhll hsl
        clear hST2 hnext herr hpc hpre hsubt hhl hsu hsv h10 h32
        generalize (headLns u).length = hn at *
        generalize (lastLn u).length = cl at *
        repeat' (first | ((with_reducible refine wcm ?_); first | refine cF (hno) ?_) | refine dr ?_ | (refine ds ?_ ?_ <;> intro hb) | ((with_reducible refine dbm ?_); first | exact db_nil | refine dbc ?_ ?_) | ((with_reducible refine natle ?_); first | assumption | omega | (simp; omega)))
        all_goals (simp [lexedP, toksD]; omega)
      · rw [if_neg hbi] at hST2 hnext herr hno
        obtain ⟨e1, e2, e3⟩ := hST2 rfl
        have hnext := hnext rfl
        replace hsubt := hsubt (headLn (45 :: 45 :: w)).length
        simp only [hhl] at e1 e2 e3 hnext hsubt
        simp only [if_true, List.append_nil, tokOf, List.length_append, e1, e2] at hnext
        simp only [pairI] at hno
        simp only [List.length_cons] at hhll hsl
        clear herr hpc hpre hhl hsu hsv h10 h32 hbl hbi e1 e2 e3 hpn
        generalize headLn (45 :: 45 :: w) = x at *
        have hxt : ((u.length : Int) + (x.length : Int)).toNat = u.length + x.length := by omega
        generalize (headLns u).length = hn at *
        generalize (lastLn u).length = cl at *
        repeat' (first | ((with_reducible refine wcm ?_); first | refine cF (hno) ?_) | refine dr ?_ | (refine ds ?_ ?_ <;> intro hb) | ((with_reducible refine dbm ?_); first | exact db_nil | refine dbc ?_ ?_) | ((with_reducible refine natle ?_); first | assumption | omega | (simp; omega)))
        all_goals
          refine LP_at ?_ ?_ hnext
          · simp [Env.shr, Env.get, PV.exp, PV.ids, PV.ids.idsL] <;> omega
          · simp [shrink, Ent.exp, PV.exp, PV.ids, toksD, hsubt] <;> omega
    | false =>
      obtain ⟨t1, t2, t3⟩ := text_piece (a := (lastLn u).length) h10 hpre
      have hsg := r_sign s u (b :: v) (by omega) hsu
      have hrn := r_run s u.length (by omega) (by omega)
      rw [hsv] at hrn
      have hpt := r_part b
      have hno45 : b = 45 → ∀ c, s[((u.length : Int) + 1).toNat]? = some c → (c.toNat : Int) ≠ 45 := by
        rintro rfl c k2 k3
        have k4 : c = 45 := (byteN c 45 (by decide)).1 k3
        subst k4
        rw [hsu, show ((u.length : Int) + 1).toNat = u.length + 1 by omega, List.getElem?_append_right (by omega), show u.length + 1 - u.length = 1 by omega] at k2
        cases v with
        | nil => simp at k2
        | cons c v =>
          simp at k2
          subst k2
          simp [List.isPrefixOf] at hpre
      have hsubt := fun n => sub_take hsu n
      have htxl : (textR b v).length ≤ v.length + 1 := by
        unfold textR
        split
        · have := (List.takeWhile_sublist (p := isPart) (l := b :: v)).length_le
          simpa using this
        · have := signM_le (b :: v)
          simpa using this
      have hS := r_Shape (textR b v) (by omega)
      have htk : isPart b = true → (b :: v).take (textR b v).length = textR b v := fun hp => by
        unfold textR
        rw [if_pos hp]
        have := List.takeWhile_prefix isPart (l := b :: v)
        exact (List.prefix_iff_eq_take.1 this).symm
      have hsub : isPart b = true → (s.take (u.length + (textR b v).length)).drop u.length = textR b v := fun hp => by rw [hsubt, htk hp]
      have htr : textR b v = if isPart b then (b :: v).takeWhile isPart else signM (b :: v) := rfl
      simp only [aggI] at hS
      have hxt : ((u.length : Int) + ((textR b v).length : Int)).toNat = u.length + (textR b v).length := by omega
      have hnil : isPart b = true → (textR b v).length ≠ 0 := fun hp => by
        rw [htr, if_pos hp, List.takeWhile_cons, if_pos hp]; simp
      by_cases he : (pieceM (lastLn u).length b (headLn v)).1.e = 0
      · obtain ⟨k1, k2⟩ := t2 he
        obtain ⟨e1, e2, e3⟩ := hST2 he
        have hnext := hnext he
        rw [k2] at e1 e2 e3 hnext
        rw [k1] at hnext
        have h6 : (shapeM (textR b v)).1 ≠ 6 := shapeM_ne6 _
        rw [he] at t1
        simp only [if_neg h6, List.append_nil, tokOf, List.length_append, e1, e2, e3] at hnext
        clear herr t2 t3 hST2 k1 k2 e1 e2 e3 hpn he hsubt hpre hsv h10 h32 htk
        cases hp : isPart b with
        | true =>
          rw [hp] at hpt
          rw [if_pos hp] at htr
          rw [← htr] at hrn
          have hsub := hsub hp
          clear hsu htr
          generalize signM (b :: v) = sg at *
          generalize textR b v = tx at *
          generalize shapeM tx = sh at *
          have hS2 := hS
          rw [← hsub] at hS2
          have hrl : ((s.take (u.length + tx.length)).drop u.length).length = tx.length := by rw [hsub]
          generalize (headLns u).length = hn at *
          generalize (lastLn u).length = cl at *
          by_cases h45 : b = 45
          · subst h45
            exfalso
            revert hp
            decide
          have hb45 : (b.toNat : Int) ≠ 45 := fun hc => h45 ((byteN b 45 (by decide)).1 hc)
          clear hno45 h45 hp hnil
          repeat' (first | ((with_reducible refine wcm ?_); first | refine cF (hsg) ?_ | refine cF (hpt) ?_ | refine cF (hrn) ?_ | refine cF (hS) ?_ | refine cF (hS2) ?_) | refine dr ?_ | (refine ds ?_ ?_ <;> intro hb) | ((with_reducible refine dbm ?_); first | exact db_nil | refine dbc ?_ ?_) | ((with_reducible refine natle ?_); first | assumption | omega | (simp; omega)))
          all_goals
            refine LP_at ?_ ?_ hnext
            · simp [Env.shr, Env.get, PV.exp, PV.ids, PV.ids.idsL, hsub] <;> omega
            · simp [shrink, Ent.exp, PV.exp, PV.ids, toksD, hsub] <;> omega
        | false =>
          rw [hp] at hpt
          rw [if_neg (by rw [hp]; simp)] at htr
          rw [← htr] at hsg
          clear hsu htr hsub hrn hnil
          generalize textR b v = tx at *
          generalize shapeM tx = sh at *
          generalize (headLns u).length = hn at *
          generalize (lastLn u).length = cl at *
          by_cases h45 : b = 45
          · have hno45 := hno45 h45
            have hb45 : (b.toNat : Int) = 45 := by rw [h45]; rfl
            cases hc : s[((u.length : Int) + 1).toNat]? with
            | none =>
              have hcl2 : s.length ≤ u.length + 1 := by have := List.getElem?_eq_none_iff.1 hc; omega
              clear h45 hno45
              repeat' (first | ((with_reducible refine wcm ?_); first | refine cF (hsg) ?_ | refine cF (hpt) ?_ | refine cF (hS) ?_) | refine dr ?_ | (refine ds ?_ ?_ <;> intro hb) | ((with_reducible refine dbm ?_); first | exact db_nil | refine dbc ?_ ?_) | ((with_reducible refine natle ?_); first | assumption | omega | (simp; omega)))
              all_goals
                refine LP_at ?_ ?_ hnext
                · simp [Env.shr, Env.get, PV.exp, PV.ids, PV.ids.idsL] <;> omega
                · simp [shrink, Ent.exp, PV.exp, PV.ids, toksD] <;> omega
            | some c =>
              have hc45 := hno45 c hc
              have hcl2 : u.length + 1 < s.length := by have := (List.getElem?_eq_some_iff.1 hc).1; omega
              clear h45 hno45
              repeat' (first | ((with_reducible refine wcm ?_); first | refine cF (hsg) ?_ | refine cF (hpt) ?_ | refine cF (hS) ?_) | refine dr ?_ | (refine ds ?_ ?_ <;> intro hb) | ((with_reducible refine dbm ?_); first | exact db_nil | refine dbc ?_ ?_) | ((with_reducible refine natle ?_); first | assumption | omega | (simp; omega)))
              all_goals
                refine LP_at ?_ ?_ hnext
                · simp [Env.shr, Env.get, PV.exp, PV.ids, PV.ids.idsL] <;> omega
                · simp [shrink, Ent.exp, PV.exp, PV.ids, toksD] <;> omega
          · have hb45 : (b.toNat : Int) ≠ 45 := fun hc => h45 ((byteN b 45 (by decide)).1 hc)
            clear hno45 h45
            repeat' (first | ((with_reducible refine wcm ?_); first | refine cF (hsg) ?_ | refine cF (hpt) ?_ | refine cF (hS) ?_) | refine dr ?_ | (refine ds ?_ ?_ <;> intro hb) | ((with_reducible refine dbm ?_); first | exact db_nil | refine dbc ?_ ?_) | ((with_reducible refine natle ?_); first | assumption | omega | (simp; omega)))
            all_goals
              refine LP_at ?_ ?_ hnext
              · simp [Env.shr, Env.get, PV.exp, PV.ids, PV.ids.idsL] <;> omega
              · simp [shrink, Ent.exp, PV.exp, PV.ids, toksD] <;> omega
      · have herr := herr he
        rw [t3 he, ← t1] at herr
        have he' : (shapeM (textR b v)).2 ≠ 0 := by rw [t1]; exact he
        rw [herr]
        clear herr t1 t2 t3 hST2 hnext hpn he hsubt hpre hsv h10 h32 htk
        cases hp : isPart b with
        | true =>
          rw [hp] at hpt
          rw [if_pos hp] at htr
          rw [← htr] at hrn
          have hsub := hsub hp
          clear hsu htr
          generalize signM (b :: v) = sg at *
          generalize textR b v = tx at *
          generalize shapeM tx = sh at *
          have hS2 := hS
          rw [← hsub] at hS2
          have hrl : ((s.take (u.length + tx.length)).drop u.length).length = tx.length := by rw [hsub]
          generalize (headLns u).length = hn at *
          generalize (lastLn u).length = cl at *
          by_cases h45 : b = 45
          · subst h45
            exfalso
            revert hp
            decide
          have hb45 : (b.toNat : Int) ≠ 45 := fun hc => h45 ((byteN b 45 (by decide)).1 hc)
          clear hno45 h45 hp hnil
          repeat' (first | ((with_reducible refine wcm ?_); first | refine cF (hsg) ?_ | refine cF (hpt) ?_ | refine cF (hrn) ?_ | refine cF (hS) ?_ | refine cF (hS2) ?_) | refine dr ?_ | (refine ds ?_ ?_ <;> intro hb) | ((with_reducible refine dbm ?_); first | exact db_nil | refine dbc ?_ ?_) | ((with_reducible refine natle ?_); first | assumption | omega | (simp; omega)))
          all_goals (simp [lexedP, toksD]; omega)
        | false =>
          rw [hp] at hpt
          rw [if_neg (by rw [hp]; simp)] at htr
          rw [← htr] at hsg
          clear hsu htr hsub hrn hnil
          generalize textR b v = tx at *
          generalize shapeM tx = sh at *
          generalize (headLns u).length = hn at *
          generalize (lastLn u).length = cl at *
          by_cases h45 : b = 45
          · have hno45 := hno45 h45
            have hb45 : (b.toNat : Int) = 45 := by rw [h45]; rfl
            cases hc : s[((u.length : Int) + 1).toNat]? with
            | none =>
              have hcl2 : s.length ≤ u.length + 1 := by have := List.getElem?_eq_none_iff.1 hc; omega
              clear h45 hno45
              repeat' (first | ((with_reducible refine wcm ?_); first | refine cF (hsg) ?_ | refine cF (hpt) ?_ | refine cF (hS) ?_) | refine dr ?_ | (refine ds ?_ ?_ <;> intro hb) | ((with_reducible refine dbm ?_); first | exact db_nil | refine dbc ?_ ?_) | ((with_reducible refine natle ?_); first | assumption | omega | (simp; omega)))
              all_goals (simp [lexedP, toksD]; omega)
            | some c =>
              have hc45 := hno45 c hc
              have hcl2 : u.length + 1 < s.length := by have := (List.getElem?_eq_some_iff.1 hc).1; omega
              clear h45 hno45
              repeat' (first | ((with_reducible refine wcm ?_); first | refine cF (hsg) ?_ | refine cF (hpt) ?_ | refine cF (hS) ?_) | refine dr ?_ | (refine ds ?_ ?_ <;> intro hb) | ((with_reducible refine dbm ?_); first | exact db_nil | refine dbc ?_ ?_) | ((with_reducible refine natle ?_); first | assumption | omega | (simp; omega)))
              all_goals (simp [lexedP, toksD]; omega)
          · have hb45 : (b.toNat : Int) ≠ 45 := fun hc => h45 ((byteN b 45 (by decide)).1 hc)
            clear hno45 h45
            repeat' (first | ((with_reducible refine wcm ?_); first | refine cF (hsg) ?_ | refine cF (hpt) ?_ | refine cF (hS) ?_) | refine dr ?_ | (refine ds ?_ ?_ <;> intro hb) | ((with_reducible refine dbm ?_); first | exact db_nil | refine dbc ?_ ?_) | ((with_reducible refine natle ?_); first | assumption | omega | (simp; omega)))
            all_goals (simp [lexedP, toksD]; omega)
end Go.Plane
end
section
set_option linter.unusedVariables false
set_option linter.unusedSimpArgs false
set_option maxRecDepth 100000
set_option maxHeartbeats 4000000
namespace Go.Plane
open Go Go.Proofs
attribute [local irreducible] wops wio wic wdt wdb onOut
/-- The reference's tokens and comments, with the limits. -/
def rTokM (s : List UInt8) : List Tok × List Tok × Int × Int × Int :=
  if 20000 < s.length then ([], [], 0, 0, 3) else if (lexedR s).2.2.2.2 = 0 ∧ 6000 < (lexedR s).1.length then ([], [], 0, 0, 3) else lexedR s
theorem r_Tokens (s : List UInt8) (hs : s.length ≤ 4294967296) : F Γd 30 [.d (.str s)] (lexedP (rTokM s)) := by
  refine fn_of c30 rfl (by simp only [Env.of, List.zipIdx, List.map]; rfl) ?_
  by_cases hl : 20000 < s.length
  · have : rTokM s = ([], [], 0, 0, 3) := by unfold rTokM; rw [if_pos hl]
    rw [this]
    repeat' (first | refine dr ?_ | (refine ds ?_ ?_ <;> intro hb) | ((with_reducible refine dbm ?_); first | exact db_nil | refine dbc ?_ ?_) | ((with_reducible refine natle ?_); first | assumption | omega | (simp; omega)))
    all_goals (simp [lexedP, toksD]; done)
  have hR := r_read s (by omega)
  have : rTokM s = if (lexedR s).2.2.2.2 = 0 ∧ 6000 < (lexedR s).1.length then ([], [], 0, 0, 3) else lexedR s := by unfold rTokM; rw [if_neg hl]
  rw [this]
  simp only [lexedP] at hR
  generalize lexedR s = x at *
  have hxl := toksD_length x.1
  clear this
  by_cases hc : x.2.2.2.2 = 0 ∧ 6000 < x.1.length
  · rw [if_pos hc]
    obtain ⟨h1, h2⟩ := hc
    repeat' (first | ((with_reducible refine wcm ?_); first | refine cF (hR) ?_) | refine dr ?_ | (refine ds ?_ ?_ <;> intro hb) | ((with_reducible refine dbm ?_); first | exact db_nil | refine dbc ?_ ?_) | ((with_reducible refine natle ?_); first | assumption | omega | (simp; omega)))
    all_goals (simp [lexedP, toksD]; done)
  · rw [if_neg hc]
    repeat' (first | ((with_reducible refine wcm ?_); first | refine cF (hR) ?_) | refine dr ?_ | (refine ds ?_ ?_ <;> intro hb) | ((with_reducible refine dbm ?_); first | exact db_nil | refine dbc ?_ ?_) | ((with_reducible refine natle ?_); first | assumption | omega | (simp; omega)))
    all_goals first
      | (exfalso; exact hc ⟨by omega, by omega⟩)
      | (simp [lexedP]; done)
      | (simp [lexedP]; omega)
/-- The two agree. -/
theorem rTokM_eq (s : List UInt8) : (rTokM s).1 = (tokensM s).1 ∧ (rTokM s).2.1 = (notesM s).1 ∧ (rTokM s).2.2.1 = (tokensM s).2.1 ∧ (rTokM s).2.2.2.1 = (tokensM s).2.2.1 ∧ (rTokM s).2.2.2.2 = (tokensM s).2.2.2 ∧ (notesM s).2 = (tokensM s).2.2.2 := by
  have hn2 : (notesM s).2 = (tokensM s).2.2.2 := by
    unfold notesM
    split
    · rfl
    · rename_i h; simpa using (Classical.not_not.1 h).symm
  unfold rTokM
  by_cases hl : 20000 < s.length
  · have ht : tokensM s = ([], 0, 0, 3) := by unfold tokensM; rw [if_pos hl]
    have hn : (notesM s).1 = [] := by unfold notesM; rw [ht]; rfl
    rw [if_pos hl, hn2, ht, hn]
    simp
  rw [if_neg hl, hn2]
  have hr1 := readM_eq isTok (splitL 10 s) 1 []
  have hr2 := readM_eq isNote (splitL 10 s) 1 []
  unfold lexedR
  cases hf : firstErr 1 (splitL 10 s) with
  | some e =>
    rw [hf] at hr1 hr2
    have hne := firstErr_ne _ _ _ hf
    have ht : tokensM s = ([], e) := by
      unfold tokensM
      rw [if_neg hl, hr1, if_neg (by simp)]
    have hn : (notesM s).1 = [] := by unfold notesM; rw [ht, if_pos hne]
    simp only
    rw [if_neg (by simp), ht, hn]
    simp
  | none =>
    rw [hf] at hr1 hr2
    simp only [List.nil_append] at hr1 hr2
    simp only [true_and]
    by_cases h6 : 6000 < (allToks isTok 1 (splitL 10 s)).length
    · have ht : tokensM s = ([], 0, 0, 3) := by unfold tokensM; rw [if_neg hl, hr1, if_pos ⟨rfl, h6⟩]
      have hn : (notesM s).1 = [] := by unfold notesM; rw [ht]; rfl
      rw [if_pos h6, ht, hn]
      simp
    · have ht : tokensM s = (allToks isTok 1 (splitL 10 s), 0, 0, 0) := by unfold tokensM; rw [if_neg hl, hr1, if_neg (by simp; omega)]
      have hn : (notesM s).1 = allToks isNote 1 (splitL 10 s) := by
        unfold notesM
        rw [ht, hr2]
        simp
      rw [if_neg h6, ht, hn]
      simp
/-- **LexTokens.** -/
theorem law_Tokens (s : List UInt8) : F Γd 8 [.d (.str s)] (.d (.bool true)) := by
  refine fn_of c8 rfl (by simp only [Env.of, List.zipIdx, List.map]; rfl) ?_
  have hsan := f_sanity
  have hsh := f_short s
  cases hsm : shortM s with
  | false =>
    rw [hsm] at hsh
    repeat' (first | ((with_reducible refine wcm ?_); first | refine cF (hsh) ?_ | refine cF (hsan) ?_) | refine dr ?_ | (refine ds ?_ ?_ <;> intro hb) | ((with_reducible refine dbm ?_); first | exact db_nil | refine dbc ?_ ?_) | ((with_reducible refine natle ?_); first | assumption | omega | (simp; omega)))
    all_goals (simp; done)
  | true =>
    rw [hsm] at hsh
    have hsl : s.length ≤ 20100 := by unfold shortM at hsm; have := of_decide_eq_true hsm; omega
    have h1 := f_Tokens s (by omega)
    have h2 := r_Tokens s (by omega)
    have h3 := f_Comments s (by omega)
    obtain ⟨e1, e2, e3, e4, e5, e6⟩ := rTokM_eq s
    have hl1 := tokensM_6000 s
    have hl2 : (notesM s).1.length ≤ 20100 := by
      unfold notesM
      split
      · simp
      · have k1 := readM_len isNote (splitL 10 s) 1 []
        have k2 := splitL_sum 10 s
        simp only [List.length_nil] at k1
        simp only
        omega
    have hs1 := same_self (tokensM s).1 (by omega)
    have hs2 := same_self (notesM s).1 (by omega)
    simp only [lexedP, e1, e2, e3, e4, e5] at h2
    simp only [readP, e6] at h1 h3
    clear hsm e1 e2 e3 e4 e5 e6
    generalize tokensM s = T at *
    generalize (notesM s).1 = N at *
    repeat' (first | ((with_reducible refine wcm ?_); first | refine cF (hsh) ?_ | refine cF (h1) ?_ | refine cF (h2) ?_ | refine cF (h3) ?_ | refine cF (hs1) ?_ | refine cF (hs2) ?_ | refine cF (hsan) ?_) | refine dr ?_ | (refine ds ?_ ?_ <;> intro hb) | ((with_reducible refine dbm ?_); first | exact db_nil | refine dbc ?_ ?_) | ((with_reducible refine natle ?_); first | assumption | omega | (simp; omega)))
    all_goals (simp [eqDs, D.eqv]; done)
end Go.Plane
end
section
set_option linter.unusedVariables false
namespace Go.Plane
open Go Go.RowKit Go.ChangeShapes Go.WideShapes

/-! ### From a row's reading to data -/
/-- All cells of a world. -/
def memOf (w : World) : Mem := fun b o => w.cell? ⟨b, o, none⟩

/-- Data of a type. -/
inductive Typed (P : Program) : TypeId → List D → Prop where
  | bool (t : TypeId) (b : Bool) (h : P.underlying t = some .bool) : Typed P t [.bool b]
  | int (t : TypeId) (k : IntKind) (n : Int) (h : P.underlying t = some (.int k)) (hw : (Lit.int k n).wf = true) : Typed P t [.int k n]
  | str (t : TypeId) (s : List UInt8) (h : P.underlying t = some .string) (hs : s.length ≤ maxLen) : Typed P t [.str s]
  | slice (t e : TypeId) (xs : List (List D)) (h : P.underlying t = some (.slice e)) (hl : xs.length ≤ maxLen) (hx : ∀ x ∈ xs, Typed P e x) : Typed P t [.slice xs]
  | struct (t : TypeId) (fs : Array Field) (dss : List (List D)) (h : P.underlying t = some (.struct fs)) (hl : dss.length = fs.size)
      (hx : ∀ (i : Nat) (f : Field) (ds : List D), fs[i]? = some f → dss[i]? = some ds → Typed P f.type ds) : Typed P t dss.flatten

/-- Fields, one behind the other, up to the end. -/
def tightF (P : Program) (TS : List TypeId) (n : Nat) : Nat → List Field → Bool
  | o, [] => o == n
  | o, f :: fs => f.offset == o && TS.contains f.type && tightF P TS n (o + P.cellsOf f.type) fs
/-- Types that are closed: each is a bool, an integer, a string, a slice or a struct of such. -/
def closedT (P : Program) (TS : List TypeId) : Bool := TS.all fun t => match P.underlying t with
  | some .bool | some (.int _) | some .string => P.cellsOf t == 1
  | some (.slice e) => P.cellsOf t == 1 && TS.contains e
  | some (.struct fs) => tightF P TS (P.cellsOf t) 0 fs.toList
  | _ => false

theorem cell_spot {w : World} {a : Addr} {v : Value} (h : w.cell? a = some v) : a.spot = none := by
  unfold World.cell? at h
  split at h
  · split at h
    · cases h
    · rename_i hn; simpa using hn
  · cases h
theorem add_plain {a : Addr} (h : a.spot = none) (k : Nat) : a.add k = ⟨a.block, a.off + k, none⟩ := by
  unfold Addr.add
  split
  · rename_i hk; subst hk; cases a; simp_all
  · rfl

theorem repds_append {M : Mem} {vs us : List Value} {cs ds : List D} (h : RepDs M vs cs) (k : RepDs M us ds) : RepDs M (vs ++ us) (cs ++ ds) := by
  refine ⟨by simp [h.1, k.1], fun j v d hv hd => ?_⟩
  by_cases hj : j < vs.length
  · rw [List.getElem?_append_left hj] at hv
    rw [List.getElem?_append_left (by rw [← h.1]; exact hj)] at hd
    exact h.2 j v d hv hd
  · rw [List.getElem?_append_right (by omega)] at hv
    rw [List.getElem?_append_right (by rw [← h.1]; omega), ← h.1] at hd
    exact k.2 _ v d hv hd

theorem struct_parts {P : Program} {TS : List TypeId} {n : Nat} {M : Mem} {cs : List Value} (hn : cs.length = n) : ∀ (fs : List Field) (o : Nat), tightF P TS n o fs = true → o ≤ n →
    (∀ f ∈ fs, TS.contains f.type = true → ∃ ds, Typed P f.type ds ∧ RepDs M ((cs.drop f.offset).take (P.cellsOf f.type)) ds ∧ ds.length = P.cellsOf f.type) →
    ∃ dss : List (List D), dss.length = fs.length ∧ (∀ (i : Nat) (f : Field) (ds : List D), fs[i]? = some f → dss[i]? = some ds → Typed P f.type ds) ∧ RepDs M (cs.drop o) dss.flatten
  | [], o, h, _, _ => ⟨[], rfl, fun i f ds hf => by simp at hf, by
      have : o = n := by simpa [tightF] using h
      subst this
      rw [← hn, List.drop_length]
      exact ⟨rfl, fun j v d hv => by simp at hv⟩⟩
  | f :: fs, o, h, ho, hall => by
    simp only [tightF, Bool.and_eq_true, beq_iff_eq] at h
    obtain ⟨⟨rfl, h2⟩, h3⟩ := h
    obtain ⟨ds, k1, k2, k3⟩ := hall f (by simp) h2
    have hlen : f.offset + P.cellsOf f.type ≤ n := by
      have := k2.1
      rw [k3, List.length_take, List.length_drop] at this
      omega
    obtain ⟨dss, e1, e2, e3⟩ := struct_parts hn fs (f.offset + P.cellsOf f.type) h3 hlen (fun g hg => hall g (by simp [hg]))
    refine ⟨ds :: dss, by simp [e1], fun i g es hg hes => ?_, ?_⟩
    · cases i with
      | zero => simp at hg hes; subst hg hes; exact k1
      | succ i => exact e2 i g es (by simpa using hg) (by simpa using hes)
    · rw [List.flatten_cons, ← List.take_append_drop (P.cellsOf f.type) (cs.drop f.offset), List.drop_drop]
      exact repds_append k2 e3

theorem repds_one {M : Mem} {v : Value} {d : D} (h : RepD M v d) : RepDs M [v] [d] := ⟨rfl, fun j u e hu he => by
  cases j with
  | zero => simp at hu he; subst hu he; exact h
  | succ j => simp at hu⟩

/-- What a row reads is data of its type. -/
theorem typed_of_trod {H : Type} {enc : TypeId × Value → H} {P : Program} {w : World} {sp : Nat → Bool} {held : Bool} {TS : List TypeId} (hc : closedT P TS = true) :
    ∀ (fuel : Nat) (t : TypeId) (cs : List Value) (x : DataW H × List MemPlace), TS.contains t = true → DataW.trod enc P w 0 sp held fuel t cs = some x →
      ∃ ds, Typed P t ds ∧ RepDs (memOf w) cs ds ∧ ds.length = P.cellsOf t := by
  intro fuel
  induction fuel using Nat.strongRecOn with
  | ind fuel ih =>
  intro t cs x ht h
  have hone := List.all_eq_true.1 hc t (by simpa using ht)
  split at hone
  · rename_i hu
    obtain ⟨b, rfl, _⟩ := DataW.trod_bool hu h
    exact ⟨[.bool b], .bool t b hu, repds_one (.bool b), (beq_iff_eq.1 hone).symm⟩
  · rename_i k hu
    obtain ⟨n, rfl, _, hw⟩ := DataW.trod_int hu h
    exact ⟨[.int k n], .int t k n hu hw, repds_one (.int k n), (beq_iff_eq.1 hone).symm⟩
  · rename_i hu
    obtain ⟨s, rfl, _, hs⟩ := DataW.trod_string hu h
    have hl : s.data.toList.length = s.size := by rw [Array.length_toList]; rfl
    refine ⟨[.str s.data.toList], .str t _ hu (by rw [hl]; exact hs), repds_one (.str s _ rfl ?_), (beq_iff_eq.1 hone).symm⟩
    rw [hl]
    have : maxLen = 9223372036854775807 := rfl
    omega
  · rename_i e hu
    simp only [Bool.and_eq_true, beq_iff_eq] at hone
    have hm : maxLen = 9223372036854775807 := rfl
    rcases DataW.trod_slice hu h with ⟨rfl, _⟩ | ⟨a, len, cap, elems, rest, n, rfl, rfl, _, _, hle, hcap, hlen, hel, _⟩
    · exact ⟨[.slice []], .slice t e [] hu (by simp) (by simp), repds_one (.slice none 0 0 0 [] (fun _ _ => Go.undef) rfl (by omega) (by decide) (by simp) (by simp) (by simp)), hone.1.symm⟩
    · have hx : ∀ i, i < len → ∃ ds : List D, Typed P e ds ∧ (∀ j, j < P.cellsOf e → ∃ v, w.cell? (a.add (i * P.cellsOf e + j)) = some v ∧ ∀ d, ds[j]? = some d → RepD (memOf w) v d) ∧ ds.length = P.cellsOf e := by
        intro i hi
        have := hel i hi
        rw [List.getElem?_eq_getElem (by omega)] at this
        obtain ⟨cs', h1, h2⟩ := Option.bind_eq_some_iff.1 this
        obtain ⟨_, k1, k2⟩ := World.cells?_some h1
        obtain ⟨ds, e1, e2, e3⟩ := ih n (by omega) e cs' _ (by simpa using hone.2) h2
        refine ⟨ds, e1, fun j hj => ?_, e3⟩
        have := k2 j hj
        rw [Deep.add_add, List.getElem?_eq_getElem (by omega)] at this
        exact ⟨_, this, fun d hd => e2.2 j _ d (List.getElem?_eq_getElem (by omega)) hd⟩
      obtain ⟨g, hg⟩ := Deep.choose_lt (α := List D) hx
      refine ⟨[.slice ((List.range len).map g)], .slice t e _ hu (by simp; omega) ?_, repds_one ?_, hone.1.symm⟩
      · intro x hx
        obtain ⟨i, hi, rfl⟩ := List.mem_map.1 hx
        exact (hg i (List.mem_range.1 hi)).1
      · have hat : ∀ (i : Nat) (x : List D) (j : Nat) (d : D), ((List.range len).map g)[i]? = some x → x[j]? = some d → i < len ∧ x = g i ∧ j < P.cellsOf e := by
          intro i x j d h1 h2
          rw [List.getElem?_map] at h1
          obtain ⟨i', h3, rfl⟩ := Option.map_eq_some_iff.1 h1
          obtain ⟨h4, h5⟩ := List.getElem?_eq_some_iff.1 h3
          simp at h4 h5
          subst h5
          have := (List.getElem?_eq_some_iff.1 h2).1
          rw [(hg i h4).2.2] at this
          exact ⟨h4, rfl, this⟩
        refine .slice (some a) len cap (P.cellsOf e) _ (fun i j => (w.cell? (a.add (i * P.cellsOf e + j))).getD Go.undef) (by simp) hle (by omega) ?_ ?_ ?_
        · intro x hx
          obtain ⟨i, hi, rfl⟩ := List.mem_map.1 hx
          exact (hg i (List.mem_range.1 hi)).2.2
        · intro i x j d h1 h2
          obtain ⟨k1, rfl, k2⟩ := hat i x j d h1 h2
          obtain ⟨v, k3, _⟩ := (hg i k1).2.1 j k2
          have h0 : a.spot = none := by
            obtain ⟨v0, e3, _⟩ := (hg 0 (by omega)).2.1 0 (by omega)
            rw [Nat.zero_mul, Nat.zero_add] at e3
            exact cell_spot e3
          refine ⟨a.block, a.off, by cases a; simp_all, ?_⟩
          simp only [memOf]
          rw [← add_plain h0, k3]
          rfl
        · intro i x j d h1 h2
          obtain ⟨k1, rfl, k2⟩ := hat i x j d h1 h2
          obtain ⟨v, k3, k4⟩ := (hg i k1).2.1 j k2
          simp only [k3, Option.getD_some]
          exact k4 d h2
  · rename_i fs hu
    obtain ⟨xs, n, rfl, _, hlen, hxl, hf⟩ := DataW.trod_struct hu h
    obtain ⟨dss, e1, e2, e3⟩ := struct_parts (M := memOf w) hlen fs.toList 0 hone (Nat.zero_le _) (fun f hf' hcon => by
      obtain ⟨i, hi, rfl⟩ := List.getElem_of_mem hf'
      have := hf i _ (by rw [← Array.getElem?_toList, List.getElem?_eq_getElem hi])
      have hxl : i < xs.length := by rw [hxl]; simpa using hi
      rw [List.getElem?_eq_getElem hxl] at this
      exact ih n (by omega) _ _ _ hcon this)
    refine ⟨dss.flatten, .struct t fs dss hu (by simpa using e1) (fun i f ds h1 h2 => e2 i f ds (by rw [Array.getElem?_toList]; exact h1) h2), by simpa using e3, ?_⟩
    have := e3.1
    simp only [List.drop_zero] at this
    omega
  · cases hone

/-- An argument's value in the plane. -/
def pvOf (P : Program) (t : TypeId) (ds : List D) : PV := match P.underlying t with
  | some (.struct _) => .agg ds
  | _ => .d (ds.headD (.bool false))
theorem rep_of_arg {H : Type} {enc : TypeId × Value → H} {P : Program} {w : World} {sp : Nat → Bool} {held : Bool} {TS : List TypeId} (hc : closedT P TS = true) {r : Reach} {b : Nat} {t : TypeId} {v : Value} {d : DataW H} {ps : List MemPlace}
    (ht : TS.contains t = true) (hv : Value.okWide P w r b t v) (h : DataW.Trod enc P w 0 sp held t v d ps) : ∃ ds, Typed P t ds ∧ Rep (memOf w) [] [] v (pvOf P t ds) := by
  obtain ⟨fuel, hf⟩ := h
  obtain ⟨ds, h1, h2, h3⟩ := typed_of_trod hc fuel t _ _ ht hf
  refine ⟨ds, h1, ?_⟩
  have hone := List.all_eq_true.1 hc t (by simpa using ht)
  unfold pvOf
  split at hone
  · rename_i hu
    rw [hu]
    cases h1 with
    | bool _ x h =>
      simp only [Value.okWide, hu, Cell.okWide] at hv
      cases v <;> simp_all [Cell.ok]
      exact .d _ _ (h2.2 0 _ _ rfl rfl)
    | int _ k n h => rw [hu] at h; cases h
    | str _ s h => rw [hu] at h; cases h
    | slice _ e xs h => rw [hu] at h; cases h
    | struct _ fs dss h => rw [hu] at h; cases h
  · rename_i k hu
    rw [hu]
    cases h1 with
    | int _ k' n h =>
      simp only [Value.okWide, hu, Cell.okWide] at hv
      cases v <;> simp_all [Cell.ok]
      exact .d _ _ (h2.2 0 _ _ rfl rfl)
    | bool _ x h => rw [hu] at h; cases h
    | str _ s h => rw [hu] at h; cases h
    | slice _ e xs h => rw [hu] at h; cases h
    | struct _ fs dss h => rw [hu] at h; cases h
  · rename_i hu
    rw [hu]
    cases h1 with
    | str _ s h =>
      obtain ⟨u, rfl⟩ := okWide_string hu hv
      exact .d _ _ (h2.2 0 _ _ rfl rfl)
    | bool _ x h => rw [hu] at h; cases h
    | int _ k n h => rw [hu] at h; cases h
    | slice _ e xs h => rw [hu] at h; cases h
    | struct _ fs dss h => rw [hu] at h; cases h
  · rename_i e hu
    rw [hu]
    cases h1 with
    | slice _ e xs h =>
      obtain ⟨a, len, cap, rfl⟩ := okWide_slice hu hv
      exact .d _ _ (h2.2 0 _ _ rfl rfl)
    | bool _ x h => rw [hu] at h; cases h
    | int _ k n h => rw [hu] at h; cases h
    | str _ s h => rw [hu] at h; cases h
    | struct _ fs dss h => rw [hu] at h; cases h
  · rename_i fs hu
    rw [hu]
    simp only [Value.okWide, hu] at hv
    obtain ⟨cs, rfl, _, _⟩ := hv
    have := Rep.agg (ρ := []) (σ := []) cs.toList ds h2
    simpa using this
  · cases hone

/-- All arguments. -/
inductive TypedAll (P : Program) : List TypeId → List PV → Prop where
  | nil : TypedAll P [] []
  | cons (t : TypeId) (ts : List TypeId) (ds : List D) (ps : List PV) (h : Typed P t ds) (r : TypedAll P ts ps) : TypedAll P (t :: ts) (pvOf P t ds :: ps)
theorem reps_of_args {H : Type} {enc : TypeId × Value → H} {P : Program} {w : World} {sp : Nat → Bool} {held : Bool} {TS : List TypeId} (hc : closedT P TS = true) {r : Reach} {b : Nat} :
    ∀ (ts : List TypeId) (vs : List Value) (ds : List (DataW H)) (ps : List MemPlace), (∀ t ∈ ts, TS.contains t = true) → (∀ (j : Nat) t v, ts[j]? = some t → vs[j]? = some v → Value.okWide P w r b t v) →
      DataW.TrodAll enc P w 0 sp held ts vs ds ps → ∃ az, TypedAll P ts az ∧ RepL (memOf w) vs az ∧ ds.length = ts.length
  | [], vs, ds, ps, _, _, h => by
    obtain ⟨rfl, rfl, _⟩ := trodAll_nil h
    exact ⟨[], .nil, ⟨rfl, fun j v p hv => by simp at hv⟩, rfl⟩
  | t :: ts, vs, ds, ps, ht, hv, h => by
    obtain ⟨v0, vs0, d0, ds0, p0, q0, rfl, rfl, _, h0, r0⟩ := trodAll_cons h
    obtain ⟨es, k1, k2⟩ := rep_of_arg hc (ht t (by simp)) (hv 0 t v0 rfl rfl) h0
    obtain ⟨az, e1, e2, e3⟩ := reps_of_args hc ts vs0 ds0 _ (fun u hu => ht u (by simp [hu])) (fun j u v h1 h2 => hv (j + 1) u v (by simpa using h1) (by simpa using h2)) r0
    refine ⟨_, .cons t ts es az k1 e1, ⟨by simp [e2.1], fun j v p h1 h2 => ?_⟩, by simp [e3]⟩
    cases j with
    | zero => simp at h1 h2; subst h1 h2; exact k2
    | succ j => exact e2.2 j v p (by simpa using h1) (by simpa using h2)
/-- Arguments read again. -/
theorem trodAll_below {H : Type} {enc : TypeId × Value → H} {P : Program} (hl : laidOutB P = true) {W W' : World} (hb : Below W.heap.size W W') :
    ∀ (ts : List TypeId) (vs : List Value) (ds : List (DataW H)) (ps : List MemPlace), (∀ t ∈ ts, P.readableRec t = true ∧ t < P.types.size) → (∀ x ∈ ps, x.block < W.heap.size) →
      DataW.TrodAll enc P W 0 (fun _ => true) true ts vs ds ps → DataW.TrodAll enc P W' 0 (fun b => decide (b < W.heap.size)) true ts vs ds ps
  | [], vs, ds, ps, _, _, h => by
    obtain ⟨rfl, rfl, rfl⟩ := trodAll_nil h
    rfl
  | t :: ts, vs, ds, ps, ht, hp, h => by
    obtain ⟨v0, vs0, d0, ds0, p0, q0, rfl, rfl, rfl, h0, r0⟩ := trodAll_cons h
    exact ⟨p0, q0, Below.trod hl (ht t (by simp)).1 (ht t (by simp)).2 h0 hb (fun x hx => hp x (by simp [hx])), trodAll_below hl hb ts vs0 ds0 q0 (fun u hu => ht u (by simp [hu])) (fun x hx => hp x (by simp [hx])) r0, rfl⟩
end Go.Plane
end
section
set_option linter.unusedVariables false
namespace Go.Plane
open Go Go.RowKit Go.ChangeShapes Go.WideShapes

/-- The wrap: what the row lists, and the world's shape, both handed on. -/
theorem returns_of_change_laid {H : Type} {enc : TypeId × Value → H} {a : Assume} {C : Checked} {os : Os} {f : FuncId} {fn : Func} {s : ChangeSpec} {conds : List PathCond} {apart fresh handsOn again : Bool} {X : World → Array Value → Prop}
    (hX : ∀ (w w' : World) (args : Array Value), w.heap = w'.heap → X w args → X w' args)
    (own : ownKnob C.prog.godebug = none) (started : os.Started) (noInit : C.prog.inits.idxOf? f = none) (hfn : C.prog.funcs[f]? = some fn)
    (witness : ∃ (w : World) (tape : Tape) (i : Input), w.os = os ∧ (w.forCall tape i).Shaped C.prog ∧ i.vars = [] ∧ Input.okWide C.prog (w.forCall tape i) .any w.heap.size f i ∧
      ((s.pre enc C.prog fn conds apart (w.forCall tape i).memory i.args ∧ X (w.forCall tape i).memory i.args) ∧ sizedMet enc C.prog fn (OpenSpec.ofChange s) apart (w.forCall tape i).memory i.args) ∧ a.holds C.prog (lone (Frame.enter C.prog f i.args .normal) [] (w.forCall tape i)))
    (contract : ∀ (W : World) (base : Nat) (args : Array Value) (ds gs : List (DataW H)) (before : List MemPlace),
      (∀ (j : Nat) t v, fn.params[j]? = some t → args[j]? = some v → Value.okWide C.prog W .any base t v) →
      DataW.Whole enc C.prog fn.params.toList s.vars apart W args.toList ds gs before →
      conds.all (PathCond.test C.prog ⟨fn.params.toList, ds, s.plain.varTypes C.prog, gs⟩) = true →
      (DataW.weightsEach C.prog (fn.params.toList ++ s.plain.varTypes C.prog) (ds ++ gs)).all (· ≤ reachBytes) = true → X W args → W.ShapedOpen C.prog →
      Calls C.prog f args W fun e W' => ∃ v, e = .returned v ∧ s.post enc C.prog fn apart fresh handsOn again W args v W') :
    ReturnsInHanded a C os f .any (fun w args => (s.pre enc C.prog fn conds apart w args ∧ X w args) ∧ sizedMet enc C.prog fn (OpenSpec.ofChange s) apart w args) (s.post enc C.prog fn apart fresh handsOn again) := by
  refine returnsInHanded_of_calls own started noInit witness ?_
  intro w tape i _ hsh _ hok hpre hholds
  obtain ⟨_, _, _, fn', hfn', _, _, _, _, hval⟩ := hok
  have e : fn' = fn := Option.some.inj (hfn'.symm.trans hfn)
  subst e
  obtain ⟨⟨⟨ds, gs, before, hw, hc⟩, hx⟩, hz⟩ := hpre
  have hw' := DataW.Whole.of_heap (w' := w.forCall tape i) (by rfl) hw
  refine (contract (w.forCall tape i) w.heap.size i.args ds gs before hval hw' hc (hz.weights hw) (hX _ _ _ (by rfl) hx) hsh).mono fun e W' ⟨v, he, hp⟩ => ?_
  subst he
  exact ChangeSpec.post_blind hp

theorem keptBut_below {W W' : World} (hb : Below W.heap.size W W') (may : MemPlace → Prop) : W.keptBut W' may := by
  refine ⟨hb.os, hb.output, fun i hi => ?_⟩
  rw [hb.block i hi]
  cases h : W.heap[i]? with
  | none => trivial
  | some o => cases o <;> simp

/-- A world's cells az the plane's memory. -/
theorem rel_world {Γ : Cfg} {W : World} (hg : Γ.GL (memOf W)) : Rel Γ (memOf W) [] [] W :=
  ⟨hg, fun b o v h => h, rfl, fun i ty cs hi => by simp at hi, fun i sz xs hi => by simp at hi, fun i j g1 g2 b hij h1 => by simp at h1⟩

/-- ████ From a law in the plane to its row. -/
theorem row_of_law {H : Type} {enc : TypeId × Value → H} {Γ : Cfg} {C : Checked} {os : Os} {f : FuncId} {fn : Func} {s : ChangeSpec} {X : World → Prop} {TS : List TypeId} {tb : TypeId} {handsOn : Bool}
    (hP : Γ.P = C.prog) (hX : ∀ (w w' : World), w.heap = w'.heap → X w → X w') (own : ownKnob C.prog.godebug = none) (started : os.Started) (noInit : C.prog.inits.idxOf? f = none) (hfn : C.prog.funcs[f]? = some fn)
    (hTS : closedT C.prog TS = true) (hpar : (fn.params.toList.all fun t => TS.contains t && C.prog.readableRec t && decide (t < C.prog.types.size)) = true) (hout : laidOutB C.prog = true)
    (hres : fn.resultTypes = #[tb]) (htb : C.prog.underlying tb = some .bool) (hvars : s.vars = []) (hspec : ∀ ds : List (DataW H), ds.length = fn.params.toList.length → s.fn H (ds ++ []) = { results := [.lit (.bool true)], args := ds })
    (hΓ : ∀ W : World, W.ShapedOpen C.prog → X W → Γ.GL (memOf W) ∧ Γ.GW W)
    (hlaw : ∀ az, TypedAll C.prog fn.params.toList az → F Γ f az (.d (.bool true)))
    (witness : ∃ (w : World) (tape : Tape) (i : Input), w.os = os ∧ (w.forCall tape i).Shaped C.prog ∧ i.vars = [] ∧ Input.okWide C.prog (w.forCall tape i) .any w.heap.size f i ∧
      ((s.pre enc C.prog fn [] false (w.forCall tape i).memory i.args ∧ X (w.forCall tape i).memory) ∧ sizedMet enc C.prog fn (OpenSpec.ofChange s) false (w.forCall tape i).memory i.args) ∧ ({} : Assume).holds C.prog (lone (Frame.enter C.prog f i.args .normal) [] (w.forCall tape i))) :
    ReturnsInHanded {} C os f .any (fun w args => (s.pre enc C.prog fn [] false w args ∧ X w) ∧ sizedMet enc C.prog fn (OpenSpec.ofChange s) false w args) (s.post enc C.prog fn false true handsOn false) := by
  refine returns_of_change_laid (X := fun w _ => X w) (fun w w' _ hh h => hX w w' hh h) own started noInit hfn witness ?_
  intro W base args ds gs before hval hW _ _ hx hsh
  have hW' := hW
  obtain ⟨p, q, hA, hV, rfl, hfz, hnd⟩ := hW
  rw [hvars] at hV
  obtain ⟨rfl, rfl⟩ := trodVars_none hV
  have hmem : ∀ t ∈ fn.params.toList, TS.contains t = true ∧ C.prog.readableRec t = true ∧ t < C.prog.types.size := fun t ht => by
    have := List.all_eq_true.1 hpar t ht
    simp only [Bool.and_eq_true, decide_eq_true_eq] at this
    exact ⟨this.1.1, this.1.2, this.2⟩
  obtain ⟨az, k1, k2, k3⟩ := reps_of_args hTS fn.params.toList args.toList ds p (fun t ht => (hmem t ht).1) (fun j t v h1 h2 => hval j t v (by simpa using h1) (by simpa using h2)) hA
  obtain ⟨g1, g2⟩ := hΓ W hsh hx
  have hc := (hlaw az k1).2 (memOf W) [] W args.toList (rel_world g1) g2 k2.1 k2.2
  rw [hP] at hc
  refine hc.mono fun e W' ⟨M', ρ', σ', o, h1, h2, h3, h4, h5⟩ => ?_
  subst h4
  cases e with
  | returned v =>
    have hv : v = .bool true := h3.d_inv.bool_inv
    subst hv
    have hb : Below W.heap.size W W' := ⟨h1.ext.os, h1.ext.tape, h1.ext.output, h1.ext.size, fun k hk => h1.ext.keep k hk (by simp [blks])⟩
    refine ⟨_, rfl, ds, [], p ++ [], [], p, [], hW', ?_, ?_, ?_, keptBut_below hb _, fun h => by cases h⟩
    · rw [hspec ds k3, hres]
      exact trodAll_mk1 (shut_bool htb true)
    · rw [hspec ds k3]
      exact trodAll_below hout hb _ _ _ _ (fun t ht => (hmem t ht).2) (fun x hx => hW'.lt x (by simp [hx])) hA
    · rw [hspec ds k3, hvars]
      rfl
  | _ => exact h3.elim
/-! ### What data of a type is -/
section
variable {P : Program}
theorem typed_str {t : TypeId} {ds : List D} (hu : P.underlying t = some .string) (h : Typed P t ds) : ∃ s, ds = [.str s] ∧ s.length ≤ maxLen := by
  cases h with
  | str _ s _ hs => exact ⟨s, rfl, hs⟩
  | bool _ _ h => rw [hu] at h; cases h
  | int _ _ _ h => rw [hu] at h; cases h
  | slice _ _ _ h => rw [hu] at h; cases h
  | struct _ _ _ h => rw [hu] at h; cases h
theorem typed_int {t : TypeId} {ds : List D} {k : IntKind} (hu : P.underlying t = some (.int k)) (h : Typed P t ds) : ∃ n, ds = [.int k n] ∧ (Lit.int k n).wf = true := by
  cases h with
  | int _ k' n h hw => rw [hu] at h; cases h; exact ⟨n, rfl, hw⟩
  | bool _ _ h => rw [hu] at h; cases h
  | str _ _ h => rw [hu] at h; cases h
  | slice _ _ _ h => rw [hu] at h; cases h
  | struct _ _ _ h => rw [hu] at h; cases h
theorem typed_bool {t : TypeId} {ds : List D} (hu : P.underlying t = some .bool) (h : Typed P t ds) : ∃ b, ds = [.bool b] := by
  cases h with
  | bool _ b h => exact ⟨b, rfl⟩
  | int _ _ _ h => rw [hu] at h; cases h
  | str _ _ h => rw [hu] at h; cases h
  | slice _ _ _ h => rw [hu] at h; cases h
  | struct _ _ _ h => rw [hu] at h; cases h
theorem typed_slice {t e : TypeId} {ds : List D} (hu : P.underlying t = some (.slice e)) (h : Typed P t ds) : ∃ xs, ds = [.slice xs] ∧ xs.length ≤ maxLen ∧ ∀ x ∈ xs, Typed P e x := by
  cases h with
  | slice _ e' xs h hl hx => rw [hu] at h; cases h; exact ⟨xs, rfl, hl, hx⟩
  | bool _ _ h => rw [hu] at h; cases h
  | int _ _ _ h => rw [hu] at h; cases h
  | str _ _ h => rw [hu] at h; cases h
  | struct _ _ _ h => rw [hu] at h; cases h
theorem typed_struct {t : TypeId} {fs : Array Field} {ds : List D} (hu : P.underlying t = some (.struct fs)) (h : Typed P t ds) :
    ∃ dss : List (List D), ds = dss.flatten ∧ dss.length = fs.size ∧ ∀ (i : Nat) (f : Field) (es : List D), fs[i]? = some f → dss[i]? = some es → Typed P f.type es := by
  cases h with
  | struct _ fs' dss h hl hx => rw [hu] at h; cases h; exact ⟨dss, rfl, hl, hx⟩
  | bool _ _ h => rw [hu] at h; cases h
  | int _ _ _ h => rw [hu] at h; cases h
  | str _ _ h => rw [hu] at h; cases h
  | slice _ _ _ h => rw [hu] at h; cases h
theorem typed_rows {α : Type} {e : TypeId} {g : α → List D} : ∀ {xs : List (List D)}, (∀ x ∈ xs, ∃ a, x = g a) → ∃ l : List α, xs = l.map g
  | [], _ => ⟨[], rfl⟩
  | x :: xs, h => by
    obtain ⟨a, rfl⟩ := h x (by simp)
    obtain ⟨l, rfl⟩ := typed_rows (e := e) (xs := xs) (fun y hy => h y (by simp [hy]))
    exact ⟨a :: l, rfl⟩
theorem typedAll_cons {t : TypeId} {ts : List TypeId} {az : List PV} (h : TypedAll P (t :: ts) az) : ∃ ds ps, az = pvOf P t ds :: ps ∧ Typed P t ds ∧ TypedAll P ts ps := by
  cases h with
  | cons _ _ ds ps h r => exact ⟨ds, ps, rfl, h, r⟩
theorem typedAll_nil {az : List PV} (h : TypedAll P [] az) : az = [] := by cases h; rfl
end
end Go.Plane
end
section
set_option linter.unusedVariables false
set_option maxRecDepth 100000
namespace Go.Plane
open Go Go.Proofs Go.Proofs.YtccejlonkoafgaaDoor Go.ChangeShapes Go.WideShapes

abbrev seatLaid : List (String × DataW Unit) := [("unicode/utf8.acceptRanges", Rows.laid_unicode_utf8_acceptRanges), ("unicode.White_Space", Rows.laid_unicode_White_Space), ("strings.asciiSpace", Rows.laid_strings_asciiSpace), ("unicode/utf8.first", Rows.laid_unicode_utf8_first)]
abbrev seatTypes : List TypeId := [3, 5, 9, 23, 25, 26, 52, 57]
theorem seat_closed : closedT Tryd.prog seatTypes = true := by kernel_rfl
theorem seat_own : ownKnob Tryd.prog.godebug = none := by kernel_rfl
theorem seat_out : laidOutB Tryd.prog = true := by kernel_rfl
theorem seat_plain : (seatLaid.all fun x => x.2.handleName?.isNone) = true := by kernel_rfl
theorem seat_row0 : ((begin Tryd.prog (fun _ _ => 0) default).world.heap[0]?).bind (fun o => (Obj.row? o).map fun r => (r.1.size, r.2)) = some (256, 130) := by kernel_rfl
theorem seat_row1 : ((begin Tryd.prog (fun _ _ => 0) default).world.heap[1]?).bind Obj.row? = some (#[.int .i64 0], 3) := by kernel_rfl
theorem seat_globals : Tryd.prog.globals.size = 6 := by kernel_rfl
theorem seat_tab : (Rows.laid_strings_asciiSpace : DataW Unit) = Lib.tabData .u8 Lib.asciiSpaceTab := by rfl
theorem seat_Γ (W : World) (hs : W.ShapedOpen Tryd.prog) (hL : laidMetH Tryd.prog seatLaid W) : Γd.GL (memOf W) ∧ Γd.GW W := by
  rw [MakeChecks.laidMetH_plain _ _ _ seat_plain] at hL
  have hT : Lib.TabIs Tryd.prog W "strings.asciiSpace" .u8 Lib.asciiSpaceTab := by
    have h2 := hL.tail.tail
    rw [seat_tab] at h2
    exact Lib.tabIs_of_head gAscii (by kernel_rfl) (Tryd.underlying130) (Tryd.underlying5) (by kernel_rfl) (by kernel_rfl) h2
  refine ⟨⟨?_, fun o v hv => ?_⟩, ?_⟩
  · exact Proofs.cell_of_shapedOpen_int hs (by rw [seat_globals]; decide) seat_row1 rfl (by kernel_rfl) (by kernel_rfl) Tryd.underlying3
  · unfold asciiAt at hv
    obtain ⟨n, hn, rfl⟩ := Option.map_eq_some_iff.1 hv
    obtain ⟨ho, rfl⟩ := List.getElem?_eq_some_iff.1 hn
    have := hT.cell gAscii o ho
    simp only [memOf]
    rw [this]
    simp [List.getD, ho]
  · obtain ⟨r, h1, h2⟩ := Option.bind_eq_some_iff.1 seat_row0
    obtain ⟨⟨z, t⟩, h3, h4⟩ := Option.map_eq_some_iff.1 h2
    obtain ⟨cs, k1, k2, _⟩ := hs.1 0 z t (by rw [seat_globals]; decide) (by rw [h1]; exact h3)
    refine ⟨t, ?_⟩
    unfold World.shape?
    rw [k1]
    simp only [Prod.mk.injEq] at h4
    simp [k2, h4.1]
theorem seat_world (os : Os) (args : Array Value) : laidMetH Tryd.prog seatLaid ((World.laidAll Tryd.prog os seatLaid).forCall (fun _ _ => 0) ⟨#[], args, []⟩).memory := by
  rw [MakeChecks.laidMetH_plain _ _ _ seat_plain]
  exact laidMet_laidAll _ (by kernel_rfl) (by kernel_rfl)
end Go.Plane
end
section
set_option linter.unusedVariables false
set_option maxRecDepth 100000
namespace Go.Plane
open Go Go.Proofs
theorem two_of {α : Type} {l : List α} (h : l.length = 2) : ∃ a b, l = [a, b] := by
  match l, h with
  | [a, b], _ => exact ⟨a, b, rfl⟩
theorem three_of {α : Type} {l : List α} (h : l.length = 3) : ∃ a b c, l = [a, b, c] := by
  match l, h with
  | [a, b, c], _ => exact ⟨a, b, c, rfl⟩
theorem typed_place {ds : List D} (h : Typed Tryd.prog 23 ds) : ∃ l c, ds = [.int .i64 l, .int .i64 c] := by
  obtain ⟨dss, rfl, hl, hx⟩ := typed_struct Tryd.underlying23 h
  obtain ⟨a, b, rfl⟩ := two_of hl
  obtain ⟨l, rfl, _⟩ := typed_int Tryd.underlying3 (hx 0 _ a rfl rfl)
  obtain ⟨c, rfl, _⟩ := typed_int Tryd.underlying3 (hx 1 _ b rfl rfl)
  exact ⟨l, c, rfl⟩
theorem typed_change {ds : List D} (h : Typed Tryd.prog 25 ds) : ∃ a b x, ds = [.int .i64 a, .int .i64 b, .str x] := by
  obtain ⟨dss, rfl, hl, hx⟩ := typed_struct Tryd.underlying25 h
  obtain ⟨a, b, c, rfl⟩ := three_of hl
  obtain ⟨l, rfl, _⟩ := typed_int Tryd.underlying3 (hx 0 _ a rfl rfl)
  obtain ⟨m, rfl, _⟩ := typed_int Tryd.underlying3 (hx 1 _ b rfl rfl)
  obtain ⟨x, rfl, _⟩ := typed_str Tryd.underlying9 (hx 2 _ c rfl rfl)
  exact ⟨l, m, x, rfl⟩
theorem typed_tok {ds : List D} (h : Typed Tryd.prog 57 ds) : ∃ t : Tok, ds = t.row := by
  obtain ⟨dss, rfl, hl, hx⟩ := typed_struct Tryd.underlying57 h
  obtain ⟨a, b, c, rfl⟩ := three_of hl
  obtain ⟨k, rfl, _⟩ := typed_int Tryd.underlying3 (hx 0 _ a rfl rfl)
  obtain ⟨s, rfl, _⟩ := typed_str Tryd.underlying9 (hx 1 _ b rfl rfl)
  obtain ⟨p, q, rfl⟩ := typed_place (hx 2 _ c rfl rfl)
  exact ⟨⟨k, s, p, q⟩, rfl⟩
theorem typed_strs {ds : List D} (h : Typed Tryd.prog 26 ds) : ∃ l : List (List UInt8), ds = [.slice (strsD l)] := by
  obtain ⟨xs, rfl, _, hx⟩ := typed_slice Tryd.underlying26 h
  obtain ⟨l, rfl⟩ := typed_rows (e := 9) (g := fun s : List UInt8 => [D.str s]) (xs := xs) (fun x hm => by
    obtain ⟨s, rfl, _⟩ := typed_str Tryd.underlying9 (hx x hm)
    exact ⟨s, rfl⟩)
  exact ⟨l, rfl⟩
theorem typed_toks {ds : List D} (h : Typed Tryd.prog 52 ds) : ∃ l : List Tok, ds = [.slice (toksD l)] := by
  obtain ⟨xs, rfl, _, hx⟩ := typed_slice Tryd.underlying52 h
  obtain ⟨l, rfl⟩ := typed_rows (e := 57) (g := Tok.row) (xs := xs) (fun x hm => typed_tok (hx x hm))
  exact ⟨l, rfl⟩
end Go.Plane
end

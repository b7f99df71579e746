/- A part of the proof: the calculus over pure values, contracts of functions, and plain lemmas. -/
import Derived.Test.YtccejlonkoafgaaDoorW4
import Derived.Test.YtccejlonkoafgaaDoorW3
import Derived.Shelf.RegionOpenPlain
import Derived.WalkKit
import Derived.Lib.Builder
import Derived.Lib.UnsafeStr
import Derived.Laws.Externs
import Derived.Shelf.Strings.Builder1
import Derived.Laws.RangeString
import Derived.Laws.RangeAny
section
set_option linter.unusedVariables false
set_option linter.unusedSimpArgs false
set_option maxRecDepth 100000
set_option maxHeartbeats 2000000
namespace Go.Plane
open Go Go.Proofs
theorem part_cases {b : UInt8} (h : isPart b = true) : isSmall b = true ∨ isCapital b = true ∨ isDigit b = true ∨ b = 95 := by
  simp only [isPart, Bool.or_eq_true, beq_iff_eq] at h
  rcases h with ((h | h) | h) | h
  · exact .inl h
  · exact .inr (.inl h)
  · exact .inr (.inr (.inl h))
  · exact .inr (.inr (.inr h))
theorem takeWhile_all {p : UInt8 → Bool} {s : List UInt8} (h : (s.takeWhile p).length = s.length) : ∀ b ∈ s, p b = true := by
  induction s with
  | nil => simp
  | cons c s ih =>
    intro b hb
    by_cases hc : p c = true
    · rw [List.takeWhile_cons, if_pos hc] at h
      rcases List.mem_cons.1 hb with rfl | hb
      · exact hc
      · exact ih (by simpa using h) b hb
    · rw [List.takeWhile_cons, if_neg hc] at h
      simp at h
theorem wordR_eq {b : UInt8} {r : List UInt8} (hall : ∀ c ∈ b :: r, isPart c = true) (hd : isDigit b = false) (hu : b ≠ 95) : wordR (b :: r) = wordM (b :: r) := by
  have hp : (b :: r).all (fun c => isPart c && !isCapital c) = !(b :: r).any isCapital := by
    rw [Bool.eq_iff_iff, List.all_eq_true, Bool.not_eq_true', List.any_eq_false]
    exact ⟨fun h c hc => by have := h c hc; simp at this; simp [this.2], fun h c hc => by have := h c hc; simp [hall c hc, this]⟩
  have hq : (b :: r).all (fun c => isPart c && !isSmall c) = !(b :: r).any isSmall := by
    rw [Bool.eq_iff_iff, List.all_eq_true, Bool.not_eq_true', List.any_eq_false]
    exact ⟨fun h c hc => by have := h c hc; simp at this; simp [this.2], fun h c hc => by have := h c hc; simp [hall c hc, this]⟩
  have hb : (b :: r).any isSmall = true ∨ (b :: r).any isCapital = true := by
    rcases part_cases (hall b (by simp)) with h | h | h | h
    · exact .inl (by simp [h])
    · exact .inr (by simp [h])
    · rw [h] at hd; cases hd
    · exact absurd h hu
  have hl : ((20 : Int) < ((b :: r).length : Int)) = (20 < (b :: r).length) := by apply propext; omega
  unfold wordR wordM
  rw [hp, hq]
  simp only [hl]
  clear hp hq hl hall
  revert hb
  generalize (b :: r).any isSmall = x
  generalize (b :: r).any isCapital = y
  cases x <;> cases y <;> simp
theorem signs_ne (s : List UInt8) : signM [] = [] := rfl
theorem signM_mem {s x : List UInt8} (h : signM s = x) (hx : x ≠ []) : x ∈ signs ∧ x.isPrefixOf s = true := by
  unfold signM at h
  cases hf : signs.find? (fun x => x.isPrefixOf s) with
  | none => rw [hf] at h; exact absurd h.symm hx
  | some y =>
    rw [hf] at h
    simp at h
    subst h
    have h1 := List.mem_of_find?_eq_some hf
    have h2 := List.find?_some hf
    exact ⟨h1, h2⟩
theorem signM_sign {s : List UInt8} (h : s ∈ signs) : signM s = s := by
  have : ∀ x ∈ signs, signM x = x := by decide
  exact this s h
theorem sign_head {b : UInt8} {r : List UInt8} (h : b :: r ∈ signs) : isPart b = false := by
  have : ∀ x ∈ signs, ∀ c, x.head? = some c → isPart c = false := by decide
  exact this _ h b rfl
theorem mem_signs (b : UInt8) (r : List UInt8) : b :: r ∈ signs ↔ signM (b :: r) = b :: r :=
  ⟨signM_sign, fun h => (signM_mem h (by simp)).1⟩
theorem r_Shape (s : List UInt8) (hs : s.length ≤ 4294967296) : F Γd 33 [.d (.str s)] (aggI (shapeM s)) := by
  refine fn_of c33 rfl (by simp only [Env.of, List.zipIdx, List.map]; rfl) ?_
  have hh := r_has signs s (by decide)
  cases s with
  | nil =>
    have h0 : decide (([] : List UInt8) ∈ signs) = false := by decide
    rw [h0] at hh
    repeat' (first | ((with_reducible refine wcm ?_); first | refine cF (r_signs) ?_ | refine cF (hh) ?_) | refine dr ?_ | (refine ds ?_ ?_ <;> intro hb) | ((with_reducible refine dbm ?_); first | exact db_nil | refine dbc ?_ ?_) | ((with_reducible refine natle ?_); first | assumption | omega | (simp; omega)))
    exact ⟨rfl, rfl⟩
  | cons b r =>
    have hm : decide (b :: r ∈ signs) = decide (signM (b :: r) = b :: r) := by rw [decide_eq_decide]; exact mem_signs b r
    rw [hm] at hh
    have hr : F Γd 66 [.d (.str (b :: r)), .d (.int .i64 0)] (.d (.int .i64 (List.takeWhile isPart (b :: r)).length)) := r_run (b :: r) 0 hs (by simp)
    have hx0 : (b :: r)[0]? = some b := rfl
    have htw : ((List.takeWhile isPart (b :: r)).length : Int) ≤ r.length + 1 := by have := (List.takeWhile_sublist (p := isPart) (l := b :: r)).length_le; simp only [List.length_cons] at this; omega
    have hsg : signM (b :: r) = b :: r → isPart b = false := fun h => sign_head ((mem_signs b r).2 h)
    have htw2 : isPart b = false → (List.takeWhile isPart (b :: r)).length = 0 := fun h => by rw [List.takeWhile_cons, if_neg (by simp [h])]; rfl
    have hwd : ((List.takeWhile isPart (b :: r)).length : Int) = r.length + 1 → isDigit b = false → (b.toNat : Int) ≠ 95 → wordR (b :: r) = wordM (b :: r) := fun h1 h2 h3 =>
      wordR_eq (takeWhile_all (by simp only [List.length_cons]; omega)) h2 (fun h => h3 ((byteN b 95 (by decide)).2 h))
    clear hm
    have htl : (((List.takeWhile isPart (b :: r)).length : Int) = (r.length : Int) + 1) = ¬(((List.takeWhile isPart (b :: r)).length : Int) < (r.length : Int) + 1) := by apply propext; omega
    have hN := r_number b r hs
    have hW := r_word (b :: r) hs
    have hsh := shapeM_cons b r
    simp only [htl] at hsh hwd
    have hgo : signM (b :: r) = b :: r → shapeM (b :: r) = (5, 0) := fun h => by
      rw [hsh, if_neg, if_neg, if_pos h] <;> (intro h'; have := htw2 (hsg h); omega)
    clear htl htw2 hsg hx0
    repeat' (first | ((with_reducible refine wcm ?_); first | refine cF (r_signs) ?_ | refine cF (hh) ?_ | refine cF (hr) ?_ | refine cF (r_digit _) ?_ | refine cF (hN) ?_ | refine cF (hW) ?_) | refine dr ?_ | (refine ds ?_ ?_ <;> intro hb) | ((with_reducible refine dbm ?_); first | exact db_nil | refine dbc ?_ ?_) | ((with_reducible refine natle ?_); first | assumption | omega | (simp; omega)))
    all_goals push_cast at *
    all_goals try (simp [aggI, hgo, *]; done)
    have hd95 : isDigit b = false := by rw [isDigit_int, ‹(b.toNat : Int) = 95›]; rfl
    simp [aggI, *]
theorem r_Value (s : List UInt8) (hs : s.length ≤ 4294967296) : F Γd 35 [.d (.str s)] (aggI (valueM s)) := by
  refine fn_of c35 rfl (by simp only [Env.of, List.zipIdx, List.map]; rfl) ?_
  have hS := r_Shape s hs
  cases s with
  | nil =>
    repeat' (first | ((with_reducible refine wcm ?_); first | refine cF (hS) ?_) | refine dr ?_ | (refine ds ?_ ?_ <;> intro hb) | ((with_reducible refine dbm ?_); first | exact db_nil | refine dbc ?_ ?_) | ((with_reducible refine natle ?_); first | assumption | omega | (simp; omega)))
    all_goals simp_all [valueM, aggI, shapeM]
  | cons b r =>
    have hN := r_number b r hs
    repeat' (first | ((with_reducible refine wcm ?_); first | refine cF (hS) ?_ | refine cF (hN) ?_) | refine dr ?_ | (refine ds ?_ ?_ <;> intro hb) | ((with_reducible refine dbm ?_); first | exact db_nil | refine dbc ?_ ?_) | ((with_reducible refine natle ?_); first | assumption | omega | (simp; omega)))
    all_goals simp [valueM, aggI, *]
end Go.Plane
end
section
set_option linter.unusedVariables false
set_option linter.unusedSimpArgs false
set_option maxRecDepth 100000
set_option maxHeartbeats 2000000
namespace Go.Plane
open Go Go.Proofs
abbrev Tok.kt (t : Tok) : Int × List UInt8 := (t.k, t.s)
def sameK (a b : List Tok) : Bool := decide (a.map Tok.kt = b.map Tok.kt)
theorem sameK_len {a b : List Tok} (h : a.length ≠ b.length) : sameK a b = false := by
  unfold sameK
  rw [decide_eq_false_iff_not]
  intro he
  have := congrArg List.length he
  simp at this
  exact h this
theorem list_ext_take {α β : Type} (f : α → β) {a b : List α} {n : Nat} (hl : a.length = b.length) (hn : a.length ≤ n) (h : (a.take n).map f = (b.take n).map f) : a.map f = b.map f := by
  rwa [List.take_of_length_le hn, List.take_of_length_le (by omega)] at h
theorem map_take_succ {α β : Type} (f : α → β) {a b : List α} {i : Nat} {x y : α} (hx : a[i]? = some x) (hy : b[i]? = some y) (h : (a.take i).map f = (b.take i).map f) (he : f x = f y) :
    (a.take (i + 1)).map f = (b.take (i + 1)).map f := by
  rw [List.take_add_one, List.take_add_one, List.map_append, List.map_append, h, hx, hy]; simp [he]
theorem map_ne {α β : Type} (f : α → β) {a b : List α} {i : Nat} {x y : α} (hx : a[i]? = some x) (hy : b[i]? = some y) (he : f x ≠ f y) : a.map f ≠ b.map f := fun h => by
  have := congrArg (fun l => l[i]?) h
  simp [hx, hy] at this
  exact he this
theorem r_SameKinds (a b : List Tok) (ha : a.length ≤ 4294967296) (hb : b.length ≤ 4294967296) : F Γd 29 [.d (.slice (toksD a)), .d (.slice (toksD b))] (.d (.bool (sameK a b))) := by
  refine fn_of c29 rfl (by simp only [Env.of, List.zipIdx, List.map]; rfl) ?_
  have l1 := toksD_length a
  have l2 := toksD_length b
  by_cases hl : a.length = b.length
  case neg =>
    have hm := sameK_len hl
    repeat' (first | refine dr ?_ | (refine ds ?_ ?_ <;> intro hb) | ((with_reducible refine dbm ?_); first | exact db_nil | refine dbc ?_ ?_) | ((with_reducible refine natle ?_); first | assumption | omega | (simp; omega)))
    rw [hm]
    exact ⟨rfl, rfl⟩
  have hl' : (a.length : Int) = b.length := by omega
  repeat' (first | refine dr ?_ | (refine ds ?_ ?_ <;> intro hb) | ((with_reducible refine dbm ?_); first | exact db_nil | refine dbc ?_ ?_) | ((with_reducible refine natle ?_); first | assumption | omega | (simp; omega)))
  refine LP_for a (fun i _ => [(0, .d (.slice (toksD a))), (1, .d (.slice (toksD b))), (5, .d (.int .i64 i))]) (fun _ _ => []) (fun i (_ : Unit) => (a.take i).map Tok.kt = (b.take i).map Tok.kt) () rfl rfl (by simp) ?_ ?_
  · rintro i x _ hi hlt hI ih
    have hy := List.getElem?_eq_getElem (show i < b.length by omega)
    generalize b[i] = y at hy
    have r1 := toksD_at hi
    have r2 := toksD_at hy
    clear hl
    repeat' (first | refine dr ?_ | (refine ds ?_ ?_ <;> intro hb) | ((with_reducible refine dbm ?_); first | exact db_nil | refine dbc ?_ ?_) | ((with_reducible refine natle ?_); first | assumption | omega | (simp; omega)))
    all_goals first
      | (refine LP_at ?_ rfl (ih () (map_take_succ Tok.kt hi hy hI (by simp [Tok.kt, *])))
         (first | (simp [Env.shr, Env.get, PV.exp, PV.ids, PV.ids.idsL]; done) | simp [Env.shr, Env.get, PV.exp, PV.ids, PV.ids.idsL, *]))
      | (have : sameK a b = false := decide_eq_false (map_ne Tok.kt hi hy (by simp [Tok.kt, *]))
         simp [this])
  · rintro _ hI
    have : sameK a b = true := decide_eq_true (list_ext_take Tok.kt hl (Nat.le_refl _) hI)
    repeat' (first | refine dr ?_ | (refine ds ?_ ?_ <;> intro hb) | ((with_reducible refine dbm ?_); first | exact db_nil | refine dbc ?_ ?_) | ((with_reducible refine natle ?_); first | assumption | omega | (simp; omega)))
    simp [this]
theorem r_SameTokens (a b : List Tok) (ha : a.length ≤ 4294967296) (hb : b.length ≤ 4294967296) : F Γd 24 [.d (.slice (toksD a)), .d (.slice (toksD b))] (.d (.bool (decide (a = b)))) := by
  refine fn_of c24 rfl (by simp only [Env.of, List.zipIdx, List.map]; rfl) ?_
  have l1 := toksD_length a
  have l2 := toksD_length b
  by_cases hl : a.length = b.length
  case neg =>
    have hm : decide (a = b) = false := decide_eq_false (fun h => hl (by rw [h]))
    repeat' (first | refine dr ?_ | (refine ds ?_ ?_ <;> intro hb) | ((with_reducible refine dbm ?_); first | exact db_nil | refine dbc ?_ ?_) | ((with_reducible refine natle ?_); first | assumption | omega | (simp; omega)))
    rw [hm]
    exact ⟨rfl, rfl⟩
  have hl' : (a.length : Int) = b.length := by omega
  repeat' (first | refine dr ?_ | (refine ds ?_ ?_ <;> intro hb) | ((with_reducible refine dbm ?_); first | exact db_nil | refine dbc ?_ ?_) | ((with_reducible refine natle ?_); first | assumption | omega | (simp; omega)))
  refine LP_for a (fun i _ => [(0, .d (.slice (toksD a))), (1, .d (.slice (toksD b))), (5, .d (.int .i64 i))]) (fun _ _ => []) (fun i (_ : Unit) => (a.take i).map id = (b.take i).map id) () rfl rfl (by simp) ?_ ?_
  · rintro i x _ hi hlt hI ih
    have hy := List.getElem?_eq_getElem (show i < b.length by omega)
    generalize b[i] = y at hy
    have r1 := toksD_at hi
    have r2 := toksD_at hy
    have hxy : (x.k == y.k && (x.s == y.s && (x.l == y.l && x.c == y.c))) = decide (x = y) := by
      rw [Bool.eq_iff_iff]; cases x; cases y; simp
    clear hl
    repeat' (first | refine dr ?_ | (refine ds ?_ ?_ <;> intro hb) | ((with_reducible refine dbm ?_); first | exact db_nil | refine dbc ?_ ?_) | ((with_reducible refine natle ?_); first | assumption | omega | (simp; omega)))
    all_goals first
      | (refine LP_at ?_ rfl (ih () (map_take_succ id hi hy hI (by simpa using ‹x = y›)))
         (first | (simp [Env.shr, Env.get, PV.exp, PV.ids, PV.ids.idsL]; done) | simp [Env.shr, Env.get, PV.exp, PV.ids, PV.ids.idsL, *]))
      | (have : decide (a = b) = false := decide_eq_false (fun h => map_ne id hi hy (by simpa using ‹¬x = y›) (by rw [h]))
         simp [this])
  · rintro _ hI
    have : decide (a = b) = true := decide_eq_true (by have := list_ext_take id hl (Nat.le_refl _) hI; simpa using this)
    repeat' (first | refine dr ?_ | (refine ds ?_ ?_ <;> intro hb) | ((with_reducible refine dbm ?_); first | exact db_nil | refine dbc ?_ ?_) | ((with_reducible refine natle ?_); first | assumption | omega | (simp; omega)))
    simp [this]
end Go.Plane
end
section
set_option linter.unusedVariables false
set_option linter.unusedSimpArgs false
set_option maxRecDepth 100000
set_option maxHeartbeats 2000000
namespace Go.Plane
open Go Go.Proofs
theorem splitL_none (c : UInt8) : ∀ (u : List UInt8), (∀ b ∈ u, b ≠ c) → splitL c u = [u]
  | [], _ => rfl
  | b :: u, h => by
    have ih := splitL_none c u (fun x hx => h x (by simp [hx]))
    simp [splitL, h b (by simp), ih]
theorem splitL_cut (c : UInt8) : ∀ (u v : List UInt8), (∀ b ∈ u, b ≠ c) → splitL c (u ++ c :: v) = u :: splitL c v
  | [], v, _ => by simp [splitL]
  | b :: u, v, h => by
    have ih := splitL_cut c u v (fun x hx => h x (by simp [hx]))
    simp [splitL, h b (by simp), ih]
theorem drop_cut {s : List UInt8} {m i : Nat} {b : UInt8} (hm : m ≤ i) (h : s[i]? = some b) : s.drop m = (s.take i).drop m ++ b :: s.drop (i + 1) := by
  have hi := (List.getElem?_eq_some_iff.1 h).1
  have : s.drop i = b :: s.drop (i + 1) := by
    rw [List.drop_eq_getElem_cons hi]
    rw [show s[i] = b from (List.getElem?_eq_some_iff.1 h).2]
  rw [← this, List.drop_take]
  conv => lhs; rw [← List.take_append_drop (i - m) (s.drop m)]
  rw [List.drop_drop, show m + (i - m) = i by omega]
theorem strsD_append (a b : List (List UInt8)) : strsD (a ++ b) = strsD a ++ strsD b := by simp [strsD]
theorem r_lines (s : List UInt8) (hs : s.length ≤ 1000000000) : F Γd 41 [.d (.str s)] (.d (.slice (strsD (splitL 10 s)))) := by
  refine fn_of c41 rfl (by simp only [Env.of, List.zipIdx, List.map]; rfl) ?_
  repeat' (first | refine dr ?_ | (refine ds ?_ ?_ <;> intro hb) | ((with_reducible refine dbm ?_); first | exact db_nil | refine dbc ?_ ?_) | ((with_reducible refine natle ?_); first | assumption | omega | (simp; omega)))
  refine LP_for s (fun i (a : Nat × List (List UInt8)) => [(0, .d (.str s)), (3, .lref 0 (strsD a.2).length), (4, .d (.int .i64 a.1)), (5, .d (.int .i64 i))]) (fun _ a => [.lst (9, 1) (strsD a.2)])
    (fun i a => a.1 ≤ i ∧ a.2.length ≤ i ∧ a.2 ++ splitL 10 (s.drop a.1) = splitL 10 s ∧ ∀ b ∈ (s.take i).drop a.1, b ≠ 10) (0, []) rfl rfl ⟨Nat.le_refl _, by simp, by simp, by simp⟩ ?_ ?_
  · rintro i b ⟨m, out⟩ hx hlt ⟨h1, h2, h3, h4⟩ ih
    simp only at h1 h2 h3 h4
    have l1 := strsD_length out
    repeat' (first | refine dr ?_ | (refine ds ?_ ?_ <;> intro hb) | ((with_reducible refine dbm ?_); first | exact db_nil | refine dbc ?_ ?_) | ((with_reducible refine natle ?_); first | assumption | omega | (simp; omega)))
    · have hb10 : b = 10 := (byteN b 10 (by decide)).1 ‹_›
      refine LP_at ?_ ?_ (ih (i + 1, out ++ [(s.take i).drop m]) ⟨Nat.le_refl _, by simp; omega, ?_, by simp⟩)
      · simp [Env.shr, Env.get, PV.exp, PV.ids, PV.ids.idsL, strsD_append, strsD]
      · simp [shrink, Ent.exp, strsD_append]; rfl
      · rw [drop_cut h1 hx, hb10, splitL_cut 10 _ _ h4] at h3
        rw [← h3]; simp
    · refine LP_at ?_ ?_ (ih (m, out) ⟨by simp only; omega, by simp only; omega, h3, fun y hy => ?_⟩)
      · simp [Env.shr, Env.get, PV.exp, PV.ids, PV.ids.idsL, l1]
      · simp [shrink, Ent.exp]
      · rw [List.take_add_one, List.drop_append, List.mem_append, hx] at hy
        rcases hy with hy | hy
        · exact h4 y hy
        · have := List.mem_of_mem_drop hy
          simp at this
          subst this
          intro h
          exact absurd ((byteN y 10 (by decide)).2 h) ‹_›
  · rintro ⟨m, out⟩ ⟨h1, h2, h3, h4⟩
    simp only at h1 h2 h3 h4
    have l1 := strsD_length out
    rw [List.take_length] at h4
    rw [splitL_none 10 _ h4] at h3
    repeat' (first | refine dr ?_ | (refine ds ?_ ?_ <;> intro hb) | ((with_reducible refine dbm ?_); first | exact db_nil | refine dbc ?_ ?_) | ((with_reducible refine natle ?_); first | assumption | omega | (simp; omega)))
    rw [← h3]
    simp [strsD_append, strsD, List.take_of_length_le]
end Go.Plane
end
section
set_option linter.unusedVariables false
set_option linter.unusedSimpArgs false
set_option maxRecDepth 100000
set_option maxHeartbeats 2000000
namespace Go.Plane
open Go Go.Proofs
/-- A place, moved behind bytes. -/
def advM : Int × Int → List UInt8 → Int × Int
  | p, [] => p
  | p, b :: r => if b = 10 then advM (p.1 + 1, 1) r else advM (p.1, p.2 + 1) r
theorem advM_append (p : Int × Int) (a b : List UInt8) : advM p (a ++ b) = advM (advM p a) b := by
  induction a generalizing p with
  | nil => rfl
  | cons x a ih => simp only [List.cons_append, advM]; split <;> exact ih _
theorem lastM_nil : lastM [] = -1 := by decide
theorem bang_at {l : List UInt8} {i : Nat} (h : i < l.length) : (⟨l.toArray⟩ : ByteArray).data[i]! = l[i] := by
  rw [getElem!_pos _ i (by simpa using h)]; simp
theorem lastIdx_snoc (s : List UInt8) (b : UInt8) : ∀ k, k ≤ s.length → Lib.lastIdx ⟨(s ++ [b]).toArray⟩ 10 k = Lib.lastIdx ⟨s.toArray⟩ 10 k
  | 0, _ => rfl
  | k + 1, h => by
    have e1 := bang_at (l := s ++ [b]) (i := k) (by simp; omega)
    have e2 := bang_at (l := s) (i := k) (by omega)
    rw [List.getElem_append_left (by omega)] at e1
    unfold Lib.lastIdx
    rw [e1, e2, lastIdx_snoc s b k (by omega)]
theorem lastM_snoc (s : List UInt8) (b : UInt8) : lastM (s ++ [b]) = if b = 10 then (s.length : Int) else lastM s := by
  have e1 := bang_at (l := s ++ [b]) (i := s.length) (by simp)
  simp at e1
  have hz : (⟨(s ++ [b]).toArray⟩ : ByteArray).size = s.length + 1 := by simp [ByteArray.size]
  have hz2 : (⟨s.toArray⟩ : ByteArray).size = s.length := by simp [ByteArray.size]
  unfold lastM Lib.lastIndexByte
  rw [hz, hz2]
  have hb : ((b.toNat : Int) = 10) ↔ b = 10 := byteN b 10 (by decide)
  by_cases h : b = 10
  · rw [if_pos h, Lib.lastIdx_hit]
    simp only [List.append_assoc] at *
    rw [bang_at (by simp)]; simp [hb.2 h]
  · rw [if_neg h, Lib.lastIdx_miss]
    · exact lastIdx_snoc s b _ (Nat.le_refl _)
    · rw [bang_at (by simp)]; simpa using fun h' => h (hb.1 h')
theorem snoc_ind {P : List UInt8 → Prop} (h0 : P []) (h1 : ∀ s b, P s → P (s ++ [b])) (s : List UInt8) : P s := by
  have : ∀ r : List UInt8, P r.reverse := by
    intro r
    induction r with
    | nil => exact h0
    | cons b r ih => rw [List.reverse_cons]; exact h1 _ _ ih
  have h := this s.reverse
  rwa [List.reverse_reverse] at h
theorem advM_eq (s : List UInt8) : advM (1, 1) s = (1 + (s.count 10 : Int), (s.length : Int) - lastM s) := by
  induction s using snoc_ind with
  | h0 => simp [advM, lastM_nil]
  | h1 s b ih =>
    rw [advM_append, ih, lastM_snoc]
    simp only [advM, List.count_append, List.length_append, List.length_singleton]
    by_cases h : b = 10
    · subst h; simp; omega
    · rw [if_neg h, if_neg h, List.count_singleton]
      simp [h]; omega
def placeAtM (s : List UInt8) (off : Nat) : Int × Int := advM (1, 1) (s.take off)
theorem placeAtM_eq (s : List UInt8) (off : Nat) (h : off ≤ s.length) : placeAtM s off = (placeOfM s off).1 := by
  unfold placeAtM placeOfM
  rw [advM_eq, if_neg (by omega), List.length_take_of_le h]
  simp
theorem advM_bound (s : List UInt8) : 1 ≤ (advM (1, 1) s).1 ∧ (advM (1, 1) s).1 ≤ s.length + 1 ∧ 1 ≤ (advM (1, 1) s).2 ∧ (advM (1, 1) s).2 ≤ s.length + 1 := by
  rw [advM_eq]
  have h1 : s.count 10 ≤ s.length := List.count_le_length
  have h2 := lastM_le s
  have h3 : lastM s < s.length := by
    rcases Lib.lastIndexByte_spec ⟨s.toArray⟩ 10 with ⟨h, _⟩ | ⟨i, hi, h, _⟩
    · unfold lastM; rw [h]; omega
    · unfold lastM; rw [h]
      have : (⟨s.toArray⟩ : ByteArray).size = s.length := by simp [ByteArray.size]
      omega
  simp only
  omega
theorem r_PlaceAt (s : List UInt8) (n : Nat) (hs : s.length ≤ 4294967296) (hn : n ≤ s.length) : F Γd 44 [.d (.str s), .d (.int .i64 n)] (.agg [.int .i64 (placeAtM s n).1, .int .i64 (placeAtM s n).2]) := by
  refine fn_of c44 rfl (by simp only [Env.of, List.zipIdx, List.map]; rfl) ?_
  have htl : (s.take n).length = n := List.length_take_of_le hn
  repeat' (first | refine dr ?_ | (refine ds ?_ ?_ <;> intro hb) | ((with_reducible refine dbm ?_); first | exact db_nil | refine dbc ?_ ?_) | ((with_reducible refine natle ?_); first | assumption | omega | (simp; omega)))
  refine LP_for (s.take n) (fun i (_ : Int × Int) => [(0, .d (.str s)), (1, .d (.int .i64 n)), (4, .ptr 0 0), (5, .ptr 1 0), (6, .d (.int .i64 i))])
    (fun _ p => [.box 23 [.d (.int .i64 0), .d (.int .i64 0)], .box 23 [.d (.int .i64 p.1), .d (.int .i64 p.2)]]) (fun i p => advM (1, 1) ((s.take n).take i) = p) (1, 1) rfl rfl rfl ?_ ?_
  · rintro i b ⟨l, c⟩ hx hlt hI ih
    have hb := advM_bound ((s.take n).take i)
    rw [hI] at hb
    simp only at hb
    have hti : ((s.take n).take i).length = i := by simp; omega
    rw [hti] at hb
    have hx' : s[i]? = some b := by rw [List.getElem?_take] at hx; split at hx; exact hx; cases hx
    have hnext : advM (1, 1) ((s.take n).take (i + 1)) = if b = 10 then (l + 1, 1) else (l, c + 1) := by
      rw [List.take_add_one, hx, advM_append, hI]; rfl
    have hb10 : b = 10 ↔ (b.toNat : Int) = 10 := (byteN b 10 (by decide)).symm
    clear hI
    repeat' (first | refine dr ?_ | (refine ds ?_ ?_ <;> intro hb) | ((with_reducible refine dbm ?_); first | exact db_nil | refine dbc ?_ ?_) | ((with_reducible refine natle ?_); first | assumption | omega | (simp; omega)))
    · rw [if_pos (hb10.2 ‹_›)] at hnext
      refine LP_at ?_ ?_ (ih _ hnext)
      · (first | (simp [Env.shr, Env.get, PV.exp, PV.ids, PV.ids.idsL]; done) | simp [Env.shr, Env.get, PV.exp, PV.ids, PV.ids.idsL, *])
      · simp [shrink, Ent.exp, PV.exp, PV.ids]
    · rw [if_neg (fun h => absurd (hb10.1 h) ‹_›)] at hnext
      refine LP_at ?_ ?_ (ih _ hnext)
      · (first | (simp [Env.shr, Env.get, PV.exp, PV.ids, PV.ids.idsL]; done) | simp [Env.shr, Env.get, PV.exp, PV.ids, PV.ids.idsL, *])
      · simp [shrink, Ent.exp, PV.exp, PV.ids]
  · rintro ⟨l, c⟩ hI
    rw [List.take_length] at hI
    have hn' : ((s.take n).length : Int) = n := by omega
    repeat' (first | refine dr ?_ | (refine ds ?_ ?_ <;> intro hb) | ((with_reducible refine dbm ?_); first | exact db_nil | refine dbc ?_ ?_) | ((with_reducible refine natle ?_); first | assumption | omega | (simp; omega)))
    simp [placeAtM, hI]
theorem r_PlaceOf (s : List UInt8) (off : Int) (hs : s.length ≤ 4294967296) : F Γd 17 [.d (.str s), .d (.int .i64 off)] (.agg [.int .i64 (placeOfM s off).1.1, .int .i64 (placeOfM s off).1.2, .int .i64 (placeOfM s off).2]) := by
  refine fn_of c17 rfl (by simp only [Env.of, List.zipIdx, List.map]; rfl) ?_
  by_cases h : off < 0 ∨ (s.length : Int) < off
  · have hm : placeOfM s off = ((0, 0), 1) := by unfold placeOfM; rw [if_pos h]
    repeat' (first | refine dr ?_ | (refine ds ?_ ?_ <;> intro hb) | ((with_reducible refine dbm ?_); first | exact db_nil | refine dbc ?_ ?_) | ((with_reducible refine natle ?_); first | assumption | omega | (simp; omega)))
    all_goals simp [hm]
  obtain ⟨n, rfl⟩ := Int.eq_ofNat_of_zero_le (show 0 ≤ off by omega)
  have hP := r_PlaceAt s n hs (by omega)
  have hm := placeAtM_eq s n (by omega)
  have he : (placeOfM s n).2 = 0 := by unfold placeOfM; rw [if_neg h]
  rw [hm] at hP
  repeat' (first | ((with_reducible refine wcm ?_); first | refine cF (hP) ?_) | refine dr ?_ | (refine ds ?_ ?_ <;> intro hb) | ((with_reducible refine dbm ?_); first | exact db_nil | refine dbc ?_ ?_) | ((with_reducible refine natle ?_); first | assumption | omega | (simp; omega)))
  simp [he]
end Go.Plane
end
section
set_option linter.unusedVariables false
set_option linter.unusedSimpArgs false
set_option maxRecDepth 100000
set_option maxHeartbeats 2000000
namespace Go.Plane
open Go Go.Proofs
theorem r_Edit (s : List UInt8) (a b : Int) (x : List UInt8) (hs : s.length ≤ 4294967296) (hx : x.length ≤ 4294967296) :
    F Γd 19 [.d (.str s), .agg [.int .i64 a, .int .i64 b, .str x]] (.agg [.str (editM s a b x).1, .int .i64 (editM s a b x).2]) := by
  refine fn_of c19 rfl (by simp only [Env.of, List.zipIdx, List.map]; rfl) ?_
  have e1 : (s.take a.toNat).length ≤ s.length := by simp; omega
  have e2 : (s.take a.toNat ++ x).length ≤ s.length + x.length := by simp; omega
  have e3 : (s.drop b.toNat).length ≤ s.length := by simp
  repeat' (first | refine dr ?_ | (refine ds ?_ ?_ <;> intro hb) | ((with_reducible refine dbm ?_); first | exact db_nil | refine dbc ?_ ?_) | ((with_reducible refine natle ?_); first | assumption | omega | (simp; omega)))
  all_goals simp [editM, *]
theorem r_Offset (s : List UInt8) (l c : Int) (hs : s.length ≤ 1000000000) : F Γd 15 [.d (.str s), .agg [.int .i64 l, .int .i64 c]] (aggI (offsetM s l c)) := by
  refine fn_of c15 rfl (by simp only [Env.of, List.zipIdx, List.map]; rfl) ?_
  have hS := r_lines s hs
  have hlen := strsD_length (splitL 10 s)
  have hall := strsD_len (splitL 10 s)
  have hcnt : (splitL 10 s).length ≤ s.length + 1 := by rw [splitL_length]; have := List.count_le_length (a := (10 : UInt8)) (l := s); omega
  by_cases hl1 : l < 1
  · have hm : offsetM s l c = (0, 1) := by unfold offsetM; rw [if_pos (.inl hl1)]
    repeat' (first | ((with_reducible refine wcm ?_); first | refine cF (hS) ?_) | refine dr ?_ | (refine ds ?_ ?_ <;> intro hb) | ((with_reducible refine dbm ?_); first | exact db_nil | refine dbc ?_ ?_) | ((with_reducible refine natle ?_); first | assumption | omega | (simp; omega)))
    all_goals simp [hm, aggI]
  have hmax : max 0 (l - 1) = l - 1 := by omega
  cases hx : (splitL 10 s)[(l - 1).toNat]? with
  | none =>
    have hn := List.getElem?_eq_none_iff.1 hx
    have hm : offsetM s l c = (0, 1) := by unfold offsetM; rw [if_pos]; omega
    repeat' (first | ((with_reducible refine wcm ?_); first | refine cF (hS) ?_) | refine dr ?_ | (refine ds ?_ ?_ <;> intro hb) | ((with_reducible refine dbm ?_); first | exact db_nil | refine dbc ?_ ?_) | ((with_reducible refine natle ?_); first | assumption | omega | (simp; omega)))
    all_goals simp [hm, aggI]
  | some x =>
    have hn := (List.getElem?_eq_some_iff.1 hx).1
    have hy := strsD_at hx
    have hxl : x.length ≤ s.length := splitL_le 10 s x (List.mem_of_getElem? hx)
    by_cases hc : l < 1 ∨ ((splitL 10 s).length : Int) < l ∨ c < 1 ∨ (x.length : Int) + 1 < c
    · have hm : offsetM s l c = (0, 1) := by unfold offsetM; rw [hx, Option.getD_some, if_pos hc]
      repeat' (first | ((with_reducible refine wcm ?_); first | refine cF (hS) ?_) | refine dr ?_ | (refine ds ?_ ?_ <;> intro hb) | ((with_reducible refine dbm ?_); first | exact db_nil | refine dbc ?_ ?_) | ((with_reducible refine natle ?_); first | assumption | omega | (simp; omega)))
      all_goals simp [hm, aggI]
    have hok : offsetM s l c = (c - 1 + bytesM ((splitL 10 s).take (l - 1).toNat), 0) := by unfold offsetM; rw [hx, Option.getD_some, if_neg hc]
    repeat' (first | ((with_reducible refine wcm ?_); first | refine cF (hS) ?_) | refine dr ?_ | (refine ds ?_ ?_ <;> intro hb) | ((with_reducible refine dbm ?_); first | exact db_nil | refine dbc ?_ ?_) | ((with_reducible refine natle ?_); first | assumption | omega | (simp; omega)))
    have hle := bytesM_take_le (splitL 10 s)
    have hsp := bytesM_split 10 s
    have htl : ((splitL 10 s).take (l - 1).toNat).length = (l - 1).toNat := List.length_take_of_le (by omega)
    refine LP_for ((splitL 10 s).take (l - 1).toNat) (fun i n => [(3, .ptr 0 0), (4, .ptr 1 0), (5, .d (.slice (strsD (splitL 10 s)))), (6, .d (.int .i64 n)), (7, .d (.int .i64 i))])
      (fun _ _ => [.box 23 [.d (.int .i64 l), .d (.int .i64 c)], .box 33 [.d (.int .i64 0), .d (.int .i64 0)]]) (fun i n => n = c - 1 + bytesM (((splitL 10 s).take (l - 1).toNat).take i)) (c - 1) rfl rfl (by simp [bytesM]) ?_ ?_
    · rintro i y n hi hlt rfl ih
      have hi' : (splitL 10 s)[i]? = some y := by rw [List.getElem?_take] at hi; split at hi; exact hi; cases hi
      have hy := strsD_at hi'
      have hb := bytesM_take_le ((splitL 10 s).take (l - 1).toNat) i
      have hb2 := hle (l - 1).toNat
      have hb3 := bytesM_nonneg (((splitL 10 s).take (l - 1).toNat).take i)
      have hyl : y.length ≤ s.length := splitL_le 10 s y (List.mem_of_getElem? hi')
      clear hx hok
      repeat' (first | refine dr ?_ | (refine ds ?_ ?_ <;> intro hb) | ((with_reducible refine dbm ?_); first | exact db_nil | refine dbc ?_ ?_) | ((with_reducible refine natle ?_); first | assumption | omega | (simp; omega)))
      refine LP_at ?_ ?_ (ih _ rfl)
      · rw [bytesM_take_succ hi]
        simp [Env.shr, Env.get, PV.exp, PV.ids, PV.ids.idsL]
        omega
      · simp [shrink, Ent.exp, PV.exp, PV.ids]
    · rintro n rfl
      rw [List.take_length]
      repeat' (first | refine dr ?_ | (refine ds ?_ ?_ <;> intro hb) | ((with_reducible refine dbm ?_); first | exact db_nil | refine dbc ?_ ?_) | ((with_reducible refine natle ?_); first | assumption | omega | (simp; omega)))
      simp [hok, aggI]
end Go.Plane
end
section
set_option linter.unusedVariables false
namespace Go.Proofs
open Go.Shelf Go.RowKit
set_option maxHeartbeats 1000000
set_option maxRecDepth 100000
theorem Tryd.bcells : (Tryd.prog.info? 89).map (·.size) = some 2 := by kernel_rfl
theorem Tryd.blies : liesAt Tryd.prog Tryd.prog.depth 89 (2 / Tryd.prog.cellsOf 89) 0 89 1 = true := by kernel_rfl
theorem Tryd.copyCheck_used (b : Nat) (w : World) (h0 : w.cell? ⟨b, 0, none⟩ = some (.pointer (some ⟨b, 0, none⟩))) :
    Calls Tryd.prog 79 #[.pointer (some ⟨b, 0, none⟩)] w fun e w' => e = .returned (.tuple #[]) ∧ w' = w := by
  obtain ⟨j, hj, _⟩ := Option.map_eq_some_iff.1 Tryd.bcells
  go_enter Tryd.func79, Tryd.ntmps79
  go_wp2
  rw [Lib.run_neq_ptr_same w _ Tryd.underlying86 hj]
  go_wp2
  go_end0
  exact ⟨rfl, rfl⟩
theorem Tryd.copyCheck_fresh (b : Nat) (w : World) (h0 : w.cell? ⟨b, 0, none⟩ = some (.pointer none)) (hsh : w.shape? b = some (89, 2)) (hfz : w.frozen? ⟨b, 0, none⟩ = false) :
    Calls Tryd.prog 79 #[.pointer (some ⟨b, 0, none⟩)] w fun e w' => e = .returned (.tuple #[]) ∧ w' = w.setCell ⟨b, 0, none⟩ (.pointer (some ⟨b, 0, none⟩)) := by
  obtain ⟨j, hj, hjs⟩ := Option.map_eq_some_iff.1 Tryd.bcells
  go_enter Tryd.func79, Tryd.ntmps79
  go_wp2
  rw [Lib.run_to_unsafe w ⟨b, 0, none⟩ Tryd.underlying86 Tryd.underlying141 hj (by rw [hjs]; decide) hsh (Nat.zero_lt_succ 1)]
  simp only [Result.andThen]
  rw [Oper.upon_value]
  go_wp2
  rw [run_callFunc_extern Tryd.func109 (by kernel_rfl) (by kernel_rfl) (by kernel_rfl) (e := Extern.AbiNoEscape.same) (by kernel_rfl)]
  rw [Lib.run_noEscape]
  simp only [Result.andThen]
  rw [Oper.upon_value]
  go_wp2
  rw [Lib.run_from_unsafe w ⟨b, 0, none⟩ Tryd.underlying141 Tryd.underlying86 hj hsh Tryd.blies]
  simp only [Result.andThen]
  rw [Oper.upon_value]
  go_wp2
  go_end0
  exact ⟨rfl, rfl⟩
end Go.Proofs
end
section
set_option linter.unusedVariables false
namespace Go.Proofs
open Go.Shelf Go.RowKit
variable {P : Program} {ρ : Ren}
/-- Nothing but the marks of one block's cells, and what is new. -/
structure Froze (w w' : World) (g : Option Nat) (n : Nat) : Prop where
  os : w'.os = w.os
  tape : w'.tape = w.tape
  output : w'.output = w.output
  size : w.heap.size ≤ w'.heap.size
  keep : ∀ k, k < w.heap.size → g ≠ some k → w'.heap[k]? = w.heap[k]?
  here : ∀ k c e f, g = some k → w.heap[k]? = some (.cells c e f) → ∃ f', w'.heap[k]? = some (.cells c e f') ∧ f'.2 ≤ max f.2 n
theorem Froze.drew {w : World} (n : Nat) : Froze w w.drew none n := ⟨rfl, rfl, rfl, Nat.le_refl _, fun _ _ _ => rfl, fun _ _ _ _ h => by cases h⟩
theorem Froze.alloc {w w' : World} {g : Option Nat} {n : Nat} (h : Froze w w' g n) (o : Obj) : Froze w (w'.alloc o) g n := by
  have key : ∀ k, k < w'.heap.size → (w'.alloc o).heap[k]? = w'.heap[k]? := fun k hk => Plane.heap_push_old w' o hk
  refine ⟨h.os, h.tape, h.output, Nat.le_trans h.size (by rw [Plane.size_alloc']; omega), fun k hk hg => (key k (Nat.lt_of_lt_of_le hk h.size)).trans (h.keep k hk hg), fun k c e f hg hk => ?_⟩
  obtain ⟨f', h1, h2⟩ := h.here k c e f hg hk
  exact ⟨f', (key k (Array.getElem?_eq_some_iff.1 h1).1).trans h1, h2⟩
theorem Froze.freeze {w : World} (g n : Nat) : Froze w (w.drew.freeze ⟨g, 0, none⟩ n) (some g) n := by
  unfold World.freeze
  split
  · exact ⟨rfl, rfl, rfl, Nat.le_refl _, fun _ _ _ => rfl, fun k c e f _ hk => ⟨f, hk, Nat.le_max_left _ _⟩⟩
  · refine ⟨rfl, rfl, rfl, Nat.le_of_eq (Array.size_modify (xs := w.drew.heap) ..).symm, fun k hk hg => ?_, fun k c e f hg hk => ?_⟩
    · simp only [Array.getElem?_modify]
      rw [if_neg (fun he => hg (by rw [he]))]
      rfl
    · cases hg
      simp only [Array.getElem?_modify, if_true]
      rw [show w.drew.heap[g]? = w.heap[g]? from rfl, hk]
      obtain ⟨lo, hi⟩ := f
      simp only [Option.map_some]
      split
      · exact ⟨_, rfl, by simp; omega⟩
      · exact ⟨_, rfl, by simp⟩

set_option maxHeartbeats 1000000 in
set_option maxRecDepth 100000 in
theorem Any.Builder_String_exact (L : Lays.n169 P ρ) (X : Builder.Extra P ρ) (b g cap : Nat) (cur : Array Value) (p : Value) (l : List UInt8) (w : World) (h0 : l ≠ [])
    (hbk : w.heap[b]? = some (.cells #[p, .slice (some ⟨g, 0, none⟩) l.length cap] (ρ.t 72) (0, 0))) (f : Nat × Nat) (hg : w.heap[g]? = some (.cells cur (ρ.t 5) f)) (hc : l.length ≤ cap) (hcs : l.length ≤ cur.size) (hm : l.length ≤ maxLen)
    (hcell : ∀ (j : Nat) (x : UInt8), l[j]? = some x → w.cell? ⟨g, j, none⟩ = some (.int .u8 x.toNat)) :
    Calls P (ρ.f 169) #[.pointer (some ⟨b, 0, none⟩)] w fun e w' => e = .returned (.string ⟨l.toArray⟩) ∧ Froze w w' (some g) l.length := by
  have hl0 : l.length ≠ 0 := by simpa using h0
  have c1 : w.drew.cell? ⟨b, 1, none⟩ = some (.slice (some ⟨g, 0, none⟩) l.length cap) := by
    have : w.drew.heap[b]? = some (.cells #[p, .slice (some ⟨g, 0, none⟩) l.length cap] (ρ.t 72) (0, 0)) := hbk
    rw [Lib.cell_of_heap this]; rfl
  have hSD : (Builtin.unsafeSliceData_ #[(ρ.t 37)] (ρ.t 127) #[.slice (some ⟨g, 0, none⟩) l.length cap]).run P w.drew = .ok (.pointer (some ⟨g, 0, none⟩)) w.drew :=
    Lib.run_unsafeSliceData_row _ _ _ _ _ _ (by omega)
  have hUS : (Builtin.unsafeString_ #[(ρ.t 127), (ρ.t 3)] (ρ.t 9) #[.pointer (some ⟨g, 0, none⟩), .int .i64 l.length]).run P w.drew = .ok (.string ⟨l.toArray⟩) (w.drew.freeze ⟨g, 0, none⟩ l.length) := by
    refine Lib.run_unsafeString_row w.drew (ρ.t 127) (ρ.t 3) (ρ.t 9) (ρ.t 5) L.t127 X.cellsByte g cur.size (by have hg' : w.drew.heap[g]? = some (.cells cur (ρ.t 5) f) := hg; simp [World.shape?, hg']) l h0 (by omega) (by unfold maxLen at hm; omega) ?_
    intro j x hx
    have := hcell j x hx
    rw [Addr.add_mid, Nat.zero_add]
    exact this
  have hfz := Froze.freeze (w := w) g l.length
  have mixed := L.mixed
  have t72 := L.t72; have a72 := L.a72; have z72 := L.z72; have v72 := L.v72; have u72 := run_underlying L.t72
  have t70 := L.t70; have a70 := L.a70; have z70 := L.z70; have v70 := L.v70; have u70 := run_underlying L.t70
  have t37 := L.t37; have a37 := L.a37; have z37 := L.z37; have v37 := L.v37; have u37 := run_underlying L.t37
  have t127 := L.t127; have a127 := L.a127; have z127 := L.z127; have v127 := L.v127; have u127 := run_underlying L.t127
  have t3 := L.t3; have a3 := L.a3; have z3 := L.z3; have v3 := L.v3; have u3 := run_underlying L.t3
  have t9 := L.t9; have a9 := L.a9; have z9 := L.z9; have v9 := L.v9; have u9 := run_underlying L.t9
  have t5 := X.t5; have a5 := X.a5; have z5 := X.z5; have v5 := X.v5; have u5 := run_underlying X.t5
  clear hcell hg hbk hc hcs hm
  go_enter L.f169, Body.n169_ntmps ρ
  go_wp2
  go_region_o
  all_goals (go_wp2; go_ret; exact ⟨rfl, hfz⟩)
end Go.Proofs
end
section
set_option linter.unusedVariables false
namespace Go.Plane
open Go Go.Proofs Go.RowKit
section
variable {Γ : Cfg} {M : Mem} {ρ : List Gh} {σ : Store} {w w' : World}

theorem froze_shape {g : Option Nat} {n : Nat} (hf : Froze w w' g n) (hc : ∀ k, g = some k → ∃ c e f, w.heap[k]? = some (.cells c e f)) (b : Nat) (s : TypeId × Nat) (hs : w.shape? b = some s) : w'.shape? b = some s := by
  have hlt : b < w.heap.size := by
    rcases Nat.lt_or_ge b w.heap.size with h1 | h1
    · exact h1
    · simp [World.shape?, Array.getElem?_eq_none h1] at hs
  by_cases hb : g = some b
  · obtain ⟨c, e, f, h0⟩ := hc b hb
    obtain ⟨f', h1, _⟩ := hf.here b c e f hb h0
    unfold World.shape? at hs ⊢
    rw [h0] at hs
    rw [h1]
    exact hs
  · unfold World.shape? at hs ⊢
    rw [hf.keep b hlt hb]
    exact hs
theorem froze_cell {g : Option Nat} {n : Nat} (hf : Froze w w' g n) (hc : ∀ k, g = some k → ∃ c e f, w.heap[k]? = some (.cells c e f)) {b o : Nat} {v : Value} (h : w.cell? ⟨b, o, none⟩ = some v) : w'.cell? ⟨b, o, none⟩ = some v := by
  have hlt : b < w.heap.size := by
    rcases Nat.lt_or_ge b w.heap.size with h1 | h1
    · exact h1
    · simp [World.cell?, Array.getElem?_eq_none h1] at h
  by_cases hb : g = some b
  · obtain ⟨c, e, f, h0⟩ := hc b hb
    obtain ⟨f', h1, _⟩ := hf.here b c e f hb h0
    unfold World.cell? at h ⊢
    rw [h0] at h
    rw [h1]
    exact h
  · unfold World.cell? at h ⊢
    rw [hf.keep b hlt hb]
    exact h

/-- A list's first cells are marked. -/
theorem stp_froze (h : Rel Γ M ρ σ w) {g : Option Nat} {n : Nat} (hf : Froze w w' g n)
    (hg : ∀ k, g = some k → ∃ (i : Nat) (sz : TypeId × Nat) (xs : List (List D)) (a : Addr) (cap : Nat), σ[i]? = some (.lst sz xs) ∧ ρ[i]? = some (.cur (.slice (some a) xs.length cap)) ∧ a.block = k ∧ n ≤ xs.length * sz.2) :
    Stp Γ M ρ σ w M ρ σ w' := by
  have hc : ∀ k, g = some k → ∃ c e f, w.heap[k]? = some (.cells c e f) := fun k hk => by
    obtain ⟨i, sz, xs, a, cap, h1, h2, h3, h4⟩ := hg k hk
    obtain ⟨v, k1, k2, k3, k4⟩ := h.lst i sz xs h1
    rw [h2] at k1
    cases k1
    obtain ⟨b, o, vs, e, f, ha, hh, _⟩ := k4 _ _ _ rfl (.inr (by simp))
    cases ha
    exact ⟨vs, e, f, by rw [← h3]; exact hh⟩
  have hin : ∀ k, g = some k → k ∈ blks ρ := fun k hk => by
    obtain ⟨i, sz, xs, a, cap, h1, h2, h3, h4⟩ := hg k hk
    exact mem_blks.2 ⟨i, _, h2, by simp [Gh.block, h3]⟩
  refine ⟨⟨hf.os, hf.tape, hf.output, hf.size, fun b hb hn => hf.keep b hb (fun he => hn (hin b he)), Mem.le_refl M, fun b o v h1 h2 => (by rw [h1] at h2; cases h2), froze_shape hf hc⟩,
    ⟨h.gl, fun b o v hm => froze_cell hf hc (h.mem b o v hm), h.len, fun i ty cs hi => ?_, fun i sz xs hi => ?_, h.inj⟩, fun b hb => .inl hb, fun i => Tr.refl ρ σ i⟩
  · obtain ⟨b, vs, e, h1, h2, h3, h4, h5⟩ := h.box i ty cs hi
    refine ⟨b, vs, e, h1, ?_, h3, h4, h5⟩
    rw [hf.keep b (Array.getElem?_eq_some_iff.1 h2).1 (fun he => ?_)]
    · exact h2
    · obtain ⟨j, sz, xs, a, cap, k1, k2, k3, k4⟩ := hg b he
      have hij : i ≠ j := fun e => by subst e; rw [hi] at k1; cases k1
      exact h.inj i j _ _ b hij h1 k2 rfl (by simp [Gh.block, k3])
  · obtain ⟨v, h1, h2, h3, h4⟩ := h.lst i sz xs hi
    refine ⟨v, h1, h2, h3, fun a m cap hv hlt => ?_⟩
    obtain ⟨b, o, vs, e, f, ha, hh, h0, h5, h6⟩ := h4 a m cap hv hlt
    by_cases hb : g = some b
    · obtain ⟨j, sz', xs', a', cap', k1, k2, k3, k4⟩ := hg b hb
      have hij : i = j := by
        by_cases hij : i = j
        · exact hij
        · exact (h.inj i j _ _ b hij h1 k2 (by subst hv ha; simp [Gh.block]) (by simp [Gh.block, k3])).elim
      subst hij
      rw [hi] at k1
      cases k1
      rw [h1] at k2
      cases k2
      cases hv
      obtain ⟨f', q1, q2⟩ := hf.here b vs e f hb hh
      refine ⟨b, o, vs, e, f', ha, q1, ⟨?_, h0.2⟩, h5, h6⟩
      have := h0.1
      have h7 := h0.2.1
      subst h7
      simp only [Nat.zero_add] at this ⊢
      omega
    · exact ⟨b, o, vs, e, f, ha, by rw [hf.keep b (Array.getElem?_eq_some_iff.1 hh).1 hb]; exact hh, h0, h5, h6⟩
end
end Go.Plane
end
section
set_option linter.unusedVariables false
namespace Go.Proofs
open Go.Shelf Go.RowKit
variable {P : Program} {ρ : Ren}
set_option maxHeartbeats 2000000 in
set_option maxRecDepth 100000 in
theorem Any.Builder_String_nil_x (L : Lays.n169 P ρ) (X : Builder.Extra P ρ) (b : Nat) (p : Value) (w : World) (hbk : w.heap[b]? = some (.cells #[p, .slice none 0 0] (ρ.t 72) (0, 0))) :
    Calls P (ρ.f 169) #[.pointer (some ⟨b, 0, none⟩)] w fun e w' => e = .returned (.string ⟨#[]⟩) ∧ Froze w w' none 0 := by
  have hUS := Any.unsafeString_none L X
  have c1 : w.drew.cell? ⟨b, 1, none⟩ = some (.slice none 0 0) := by
    have : w.drew.heap[b]? = some (.cells #[p, .slice none 0 0] (ρ.t 72) (0, 0)) := hbk
    rw [Lib.cell_of_heap this]; rfl
  have hSD : (Builtin.unsafeSliceData_ #[(ρ.t 37)] (ρ.t 127) #[.slice none 0 0]).run P w.drew = .ok (.pointer none) w.drew := rfl
  have mixed := L.mixed
  have t72 := L.t72; have a72 := L.a72; have z72 := L.z72; have v72 := L.v72; have u72 := run_underlying L.t72
  have t70 := L.t70; have a70 := L.a70; have z70 := L.z70; have v70 := L.v70; have u70 := run_underlying L.t70
  have t37 := L.t37; have a37 := L.a37; have z37 := L.z37; have v37 := L.v37; have u37 := run_underlying L.t37
  have t127 := L.t127; have a127 := L.a127; have z127 := L.z127; have v127 := L.v127; have u127 := run_underlying L.t127
  have t3 := L.t3; have a3 := L.a3; have z3 := L.z3; have v3 := L.v3; have u3 := run_underlying L.t3
  have t9 := L.t9; have a9 := L.a9; have z9 := L.z9; have v9 := L.v9; have u9 := run_underlying L.t9
  have t5 := X.t5; have a5 := X.a5; have z5 := X.z5; have v5 := X.v5; have u5 := run_underlying X.t5
  go_enter L.f169, Body.n169_ntmps ρ
  go_wp2
  go_region_o
  all_goals (go_wp2; go_ret; exact ⟨rfl, Froze.drew 0⟩)

set_option maxHeartbeats 2000000 in
set_option maxRecDepth 100000 in
theorem Any.Builder_String_noroom_x (L : Lays.n169 P ρ) (X : Builder.Extra P ρ) (b g : Nat) (p : Value) (cur : Array Value) (w : World) (hbk : w.heap[b]? = some (.cells #[p, .slice (some ⟨g, 0, none⟩) 0 0] (ρ.t 72) (0, 0))) (fz : Nat × Nat) (hg : w.heap[g]? = some (.cells cur (ρ.t 5) fz)) :
    Calls P (ρ.f 169) #[.pointer (some ⟨b, 0, none⟩)] w fun e w' => e = .returned (.string ⟨#[]⟩) ∧ Froze w w' none 0 := by
  have hUS := Any.unsafeString_none L X
  have hlt : b < w.heap.size := by
    rcases Nat.lt_or_ge b w.heap.size with h' | h'
    · exact h'
    · simp [Array.getElem?_eq_none h'] at hbk
  have c1 : w.drew.cell? ⟨b, 1, none⟩ = some (.slice (some ⟨g, 0, none⟩) 0 0) := by
    have : w.drew.heap[b]? = some (.cells #[p, .slice (some ⟨g, 0, none⟩) 0 0] (ρ.t 72) (0, 0)) := hbk
    rw [Lib.cell_of_heap this]; rfl
  have hSD : (Builtin.unsafeSliceData_ #[(ρ.t 37)] (ρ.t 127) #[.slice (some ⟨g, 0, none⟩) 0 0]).run P w.drew = .ok (.pointer (some ⟨w.drew.heap.size, 0, none⟩)) (w.drew.alloc (.view ⟨g, 0, none⟩ (ρ.t 5))) :=
    Lib.run_unsafeSliceData_zero w.drew _ _ (ρ.t 5) L.t127 ⟨g, 0, none⟩ 0 ((ρ.t 5), cur.size) (by have hg' : w.drew.heap[g]? = some (.cells cur (ρ.t 5) fz) := hg; simp [World.shape?, hg'])
  have c2 : (w.drew.alloc (.view ⟨g, 0, none⟩ (ρ.t 5))).cell? ⟨b, 1, none⟩ = some (.slice (some ⟨g, 0, none⟩) 0 0) := by
    have : (w.drew.alloc (.view ⟨g, 0, none⟩ (ρ.t 5))).heap[b]? = _ := (Lib.alloc_old w.drew _ b hlt).trans hbk
    rw [Lib.cell_of_heap this]; rfl
  have c3 : (w.alloc (.view ⟨g, 0, none⟩ (ρ.t 5))).drew.cell? ⟨b, 1, none⟩ = some (.slice (some ⟨g, 0, none⟩) 0 0) := c2
  have c0 : w.cell? ⟨b, 1, none⟩ = some (.slice (some ⟨g, 0, none⟩) 0 0) := c1
  have mixed := L.mixed
  have t72 := L.t72; have a72 := L.a72; have z72 := L.z72; have v72 := L.v72; have u72 := run_underlying L.t72
  have t70 := L.t70; have a70 := L.a70; have z70 := L.z70; have v70 := L.v70; have u70 := run_underlying L.t70
  have t37 := L.t37; have a37 := L.a37; have z37 := L.z37; have v37 := L.v37; have u37 := run_underlying L.t37
  have t127 := L.t127; have a127 := L.a127; have z127 := L.z127; have v127 := L.v127; have u127 := run_underlying L.t127
  have t3 := L.t3; have a3 := L.a3; have z3 := L.z3; have v3 := L.v3; have u3 := run_underlying L.t3
  have t9 := L.t9; have a9 := L.a9; have z9 := L.z9; have v9 := L.v9; have u9 := run_underlying L.t9
  have t5 := X.t5; have a5 := X.a5; have z5 := X.z5; have v5 := X.v5; have u5 := run_underlying X.t5
  go_enter L.f169, Body.n169_ntmps ρ
  go_wp2
  go_region_o
  all_goals (go_wp2; go_ret; exact ⟨rfl, (Froze.drew 0).alloc _⟩)

set_option maxHeartbeats 2000000 in
set_option maxRecDepth 100000 in
theorem Any.Builder_String_room_x (L : Lays.n169 P ρ) (X : Builder.Extra P ρ) (b g cap : Nat) (p : Value) (w : World) (hc0 : cap ≠ 0) (hbk : w.heap[b]? = some (.cells #[p, .slice (some ⟨g, 0, none⟩) 0 cap] (ρ.t 72) (0, 0))) :
    Calls P (ρ.f 169) #[.pointer (some ⟨b, 0, none⟩)] w fun e w' => e = .returned (.string ⟨#[]⟩) ∧ Froze w w' none 0 := by
  have hUS := Any.unsafeString_none L X
  have c1 : w.drew.cell? ⟨b, 1, none⟩ = some (.slice (some ⟨g, 0, none⟩) 0 cap) := by
    have : w.drew.heap[b]? = some (.cells #[p, .slice (some ⟨g, 0, none⟩) 0 cap] (ρ.t 72) (0, 0)) := hbk
    rw [Lib.cell_of_heap this]; rfl
  have hSD : (Builtin.unsafeSliceData_ #[(ρ.t 37)] (ρ.t 127) #[.slice (some ⟨g, 0, none⟩) 0 cap]).run P w.drew = .ok (.pointer (some ⟨g, 0, none⟩)) w.drew :=
    Lib.run_unsafeSliceData_row _ _ _ _ _ _ hc0
  clear hc0
  have mixed := L.mixed
  have t72 := L.t72; have a72 := L.a72; have z72 := L.z72; have v72 := L.v72; have u72 := run_underlying L.t72
  have t70 := L.t70; have a70 := L.a70; have z70 := L.z70; have v70 := L.v70; have u70 := run_underlying L.t70
  have t37 := L.t37; have a37 := L.a37; have z37 := L.z37; have v37 := L.v37; have u37 := run_underlying L.t37
  have t127 := L.t127; have a127 := L.a127; have z127 := L.z127; have v127 := L.v127; have u127 := run_underlying L.t127
  have t3 := L.t3; have a3 := L.a3; have z3 := L.z3; have v3 := L.v3; have u3 := run_underlying L.t3
  have t9 := L.t9; have a9 := L.a9; have z9 := L.z9; have v9 := L.v9; have u9 := run_underlying L.t9
  have t5 := X.t5; have a5 := X.a5; have z5 := X.z5; have v5 := X.v5; have u5 := run_underlying X.t5
  go_enter L.f169, Body.n169_ntmps ρ
  go_wp2
  go_region_o
  all_goals (go_wp2; go_ret; exact ⟨rfl, Froze.drew 0⟩)
end Go.Proofs
end
section
set_option linter.unusedVariables false
namespace Go.Plane
open Go Go.Proofs Go.RowKit
set_option maxRecDepth 100000

theorem one_arg {M : Mem} {ρ : List Gh} {σ : Store} {vs : List Value} {p : PV} (hl : vs.length = [p].length) (ha : ∀ (j : Nat) (v : Value) (q : PV), vs[j]? = some v → [p][j]? = some q → Rep M ρ σ v q) : ∃ v, vs = [v] ∧ Rep M ρ σ v p := by
  match vs, hl with
  | [v], _ => exact ⟨v, rfl, ha 0 v p rfl rfl⟩
theorem two_cells {vs : Array Value} (h : vs.size = 2) : ∃ a b, vs = #[a, b] := by
  obtain ⟨l⟩ := vs
  match l, h with
  | [a, b], _ => exact ⟨a, b, rfl⟩

theorem T_copyCheck {b : Nat} {c0 c1 : PV} {σ : Store} {Q : Out → Store → Prop} (hb : σ[b]? = some (.box 89 [c0, c1])) (hc : c0 = .nilp ∨ c0 = .ptr b 0)
    (hQ : Q (.ret (.tup [])) (σ.set b (.box 89 [.ptr b 0, c1]))) : T Γd 79 [.ptr b 0] σ Q := by
  refine ⟨by kernel_rfl, fun M ρ w vs hrel hgw hl ha => ?_⟩
  obtain ⟨v, rfl, hv⟩ := one_arg hl ha
  obtain ⟨blk, rfl, hρ⟩ := hv.ptr_inv
  obtain ⟨b', cs, e, h1, h2, h3, h4, h5⟩ := hrel.box b _ _ hb
  rw [hρ] at h1
  cases h1
  obtain ⟨hno, rfl⟩ := h5
  obtain ⟨x0, x1, rfl⟩ := two_cells h3
  have r0 := h4 0 x0 c0 rfl rfl
  have r1 := h4 1 x1 c1 rfl rfl
  rcases hc with rfl | rfl
  · have hx0 : x0 = .pointer none := by cases r0; rfl
    subst hx0
    refine (Tryd.copyCheck_fresh blk w (by simp [World.cell?, h2]) (by simp [World.shape?, h2]) (by simp [World.frozen?, h2])).mono ?_
    rintro e w' ⟨rfl, rfl⟩
    obtain ⟨c', hu, hcs, hcj⟩ := upd_cells [.pointer (some ⟨blk, 0, none⟩)] 0 w _ h2 (by simp)
    have hst := stp_setBox (cs' := [.ptr b 0, c1]) hrel hb hρ hu ⟨_, h2⟩ rfl (by rw [hcs]; rfl) (fun j v p hv hp => by
      rw [hcj] at hv
      match j, hp with
      | 0, hp => simp at hv hp; subst hv hp; exact .ptr b 0 blk hρ
      | 1, hp => simp at hv hp; subst hv hp; exact r1
      | j + 2, hp => simp at hp)
    exact ⟨M, ρ, _, .ret (.tup []), hst, by simp, .tup [] [] rfl (by simp), hQ⟩
  · obtain ⟨blk', hx0, hρ'⟩ := r0.ptr_inv
    rw [hρ] at hρ'
    cases hρ'
    subst hx0
    refine (Tryd.copyCheck_used blk w (by simp [World.cell?, h2])).mono ?_
    rintro e w' ⟨rfl, rfl⟩
    exact ⟨M, ρ, σ, .ret (.tup []), Stp.refl hrel, rfl, .tup [] [] rfl (by simp), by rw [set_self hb] at hQ; exact hQ⟩

/-- The bytes of a list of bytes. -/
def bytesD (l : List UInt8) : List (List D) := l.map fun b => [.int .u8 b.toNat]

theorem T_String {b i : Nat} {c0 : PV} {l : List UInt8} {σ : Store} {Q : Out → Store → Prop} (hb : σ[b]? = some (.box 89 [c0, .lref i l.length])) (hi : σ[i]? = some (.lst (5, 1) (bytesD l)))
    (hQ : Q (.ret (.d (.str l))) σ) : T Γd 47 [.ptr b 0] σ Q := by
  refine ⟨by kernel_rfl, fun M ρ w vs hrel hgw hl ha => ?_⟩
  obtain ⟨v, rfl, hv⟩ := one_arg hl ha
  obtain ⟨blk, rfl, hρ⟩ := hv.ptr_inv
  obtain ⟨b', cs, e, h1, h2, h3, h4, h5⟩ := hrel.box b _ _ hb
  rw [hρ] at h1
  cases h1
  obtain ⟨hno, rfl⟩ := h5
  obtain ⟨x0, x1, rfl⟩ := two_cells h3
  have r1 := h4 1 x1 _ rfl rfl
  obtain ⟨sz, xs, cv, k1, k2, k3⟩ := r1.lref_inv
  rw [hi] at k1
  cases k1
  obtain rfl := k3 (by simp [bytesD])
  obtain ⟨u, q1, q2, q3, q4⟩ := hrel.lst i _ _ hi
  rw [k2] at q1
  cases q1
  obtain ⟨a, n, cap, rfl, hn, hcap, hbd⟩ := q2.slice_inv
  have hnl : n = l.length := by rw [← hn]; simp [bytesD]
  subst hnl
  have fin : ∀ (g : Option Nat) (n : Nat) (e : Ending) (w' : World), (∀ k, g = some k → ∃ a', a = some a' ∧ a'.block = k ∧ n ≤ l.length) → e = .returned (.string ⟨l.toArray⟩) ∧ Froze w w' g n →
      ∃ M' ρ' σ' o, Stp Γd M ρ σ w M' ρ' σ' w' ∧ σ'.length = σ.length ∧ RepOut M' ρ' σ' e o ∧ Q o σ' := by
    rintro g n e w' hg ⟨rfl, hf⟩
    refine ⟨M, ρ, σ, .ret (.d (.str l)), stp_froze hrel hf (fun k hk => ?_), rfl, .d _ _ (.str _ _ (by simp) hbd), hQ⟩
    obtain ⟨a', rfl, h6, h7⟩ := hg k hk
    exact ⟨i, _, _, a', cap, hi, by rw [show (bytesD l).length = l.length by simp [bytesD]]; exact k2, h6, by simpa [bytesD] using h7⟩
  cases a with
  | none =>
    have hl0 : l = [] := by
      cases l with
      | nil => rfl
      | cons x l =>
        obtain ⟨a', n', cap', sz, va, he, _, _, _, _, hcell, _⟩ := q2.slice_parts
        cases he
        obtain ⟨_, _, h6, _⟩ := hcell 0 [.int .u8 x.toNat] 0 _ rfl rfl
        cases h6
    subst hl0
    have hc0 : cap = 0 := by
      rcases Nat.eq_zero_or_pos cap with h6 | h6
      · exact h6
      · obtain ⟨_, _, _, _, _, h7, _⟩ := q4 _ _ _ rfl (.inl h6)
        cases h7
    subst hc0
    exact (Any.Builder_String_nil_x Tryd.lays169 Tryd.Builder_Extra_169 blk x0 w h2).mono fun e w' h => fin none 0 e w' (fun k hk => by cases hk) h
  | some a =>
    obtain ⟨g, o, cur, e, f, he, hh, ⟨hf1, rfl, rfl⟩, hfit, hM0⟩ := q4 _ _ _ rfl (.inr (by simp))
    cases he
    by_cases hl0 : l = []
    · subst hl0
      by_cases hc0 : cap = 0
      · subst hc0
        exact (Any.Builder_String_noroom_x Tryd.lays169 Tryd.Builder_Extra_169 blk g x0 cur w h2 f hh).mono fun e w' h => fin none 0 e w' (fun k hk => by cases hk) h
      · exact (Any.Builder_String_room_x Tryd.lays169 Tryd.Builder_Extra_169 blk g cap x0 w hc0 h2).mono fun e w' h => fin none 0 e w' (fun k hk => by cases hk) h
    · have hcells : ∀ (j : Nat) (x : UInt8), l[j]? = some x → w.cell? ⟨g, j, none⟩ = some (.int .u8 x.toNat) := fun j x hx => by
        obtain ⟨a', n', cap', sz, va, he, hn', _, _, hsz, hcell, hrep⟩ := q2.slice_parts
        cases he
        have hbx : (bytesD l)[j]? = some [.int .u8 x.toNat] := by simp [bytesD, hx]
        have hs1 : sz = 1 := by have := hsz _ (List.mem_of_getElem? hbx); simpa using this.symm
        subst hs1
        obtain ⟨b2, o2, h6, h7⟩ := hcell j _ 0 _ hbx rfl
        cases h6
        have h8 := (hrep j _ 0 _ hbx rfl).int_inv
        rw [h8] at h7
        have := hrel.mem _ _ _ h7
        simpa using this
      refine (Any.Builder_String_exact Tryd.lays169 Tryd.Builder_Extra_169 blk g cap cur x0 l w hl0 h2 f hh hcap (by simp only at hfit; omega) (by unfold maxLen; omega) hcells).mono fun e w' h => fin (some g) l.length e w' (fun k hk => ?_) h
      cases hk
      exact ⟨_, rfl, rfl, Nat.le_refl _⟩
end Go.Plane
end
section
set_option linter.unusedVariables false
set_option linter.unusedSimpArgs false
set_option maxRecDepth 100000
set_option maxHeartbeats 2000000
namespace Go.Plane
open Go Go.Proofs
theorem ft_copy0 {n : Nat} {sz : TypeId × Nat} {xs : List (List D)} : FT Γd 79 [.ptr 0 0] [.box 89 [.nilp, .lref 1 n], .lst sz xs] (.tup []) [.box 89 [.ptr 0 0, .lref 1 n], .lst sz xs] :=
  T_copyCheck rfl (.inl rfl) ⟨rfl, rfl⟩
theorem ft_copy1 {n : Nat} {sz : TypeId × Nat} {xs : List (List D)} : FT Γd 79 [.ptr 0 0] [.box 89 [.ptr 0 0, .lref 1 n], .lst sz xs] (.tup []) [.box 89 [.ptr 0 0, .lref 1 n], .lst sz xs] :=
  T_copyCheck rfl (.inr rfl) ⟨rfl, rfl⟩
/-- A builder that holds bytes: unused, or used. -/
abbrev bld (c : PV) (l : List UInt8) : Store := [.box 89 [c, .lref 1 l.length], .lst (5, 1) (bytesD l)]
theorem bytesD_append (a b : List UInt8) : bytesD (a ++ b) = bytesD a ++ bytesD b := by simp [bytesD]
theorem bytesD_length (a : List UInt8) : (bytesD a).length = a.length := by simp [bytesD]
theorem bytesD_len (a : List UInt8) : ∀ y ∈ a.map (fun b : UInt8 => [D.int .u8 b.toNat]), y.length = 1 := by simp
theorem ft_String (c : PV) (l : List UInt8) : FT Γd 47 [.ptr 0 0] (bld c l) (.d (.str l)) (bld c l) := T_String rfl rfl ⟨rfl, rfl⟩
theorem fn_ft {f : FuncId} {args : List PV} {σ' : Store} {v : PV} {σ0 : Store} {n : Nat} {rs : List RV} {body : IC} {env' : Env} {k : Nat} (hc : chkF Γd.P Γd.E f k ⟨n, rs, body⟩ = true) (hk : args.length = k) (he : Env.of args = env')
    (h : wic Γd body (fnPost rs σ0.length fun o s => o = .ret v ∧ s = σ') env' σ0) : FT Γd f args σ0 v σ' := fn_of hc hk he h
theorem ft_Len (c : PV) (l : List UInt8) (hc : c = .nilp ∨ c = .ptr 0 0) : FT Γd 46 [.ptr 0 0] (bld c l) (.d (.int .i64 l.length)) (bld c l) := by
  have h1 := bytesD_length l
  rcases hc with rfl | rfl
  · unfold bld
    refine fn_ft c46 rfl (by simp only [Env.of, List.zipIdx, List.map]; rfl) ?_
    repeat' (first | refine dr ?_ | (refine ds ?_ ?_ <;> intro hb) | ((with_reducible refine dbm ?_); first | exact db_nil | refine dbc ?_ ?_) | ((with_reducible refine natle ?_); first | assumption | omega | (simp; omega)))
    simp [Ent.exp, PV.exp, PV.ids, List.take_of_length_le, h1]
  · unfold bld
    refine fn_ft c46 rfl (by simp only [Env.of, List.zipIdx, List.map]; rfl) ?_
    repeat' (first | refine dr ?_ | (refine ds ?_ ?_ <;> intro hb) | ((with_reducible refine dbm ?_); first | exact db_nil | refine dbc ?_ ?_) | ((with_reducible refine natle ?_); first | assumption | omega | (simp; omega)))
    simp [Ent.exp, PV.exp, PV.ids, List.take_of_length_le, h1]
theorem ft_WS0 (l s : List UInt8) (hl : l.length + s.length ≤ 1073741824) : FT Γd 45 [.ptr 0 0, .d (.str s)] (bld .nilp l) (.tup [.d (.int .i64 s.length), .nili]) (bld (.ptr 0 0) (l ++ s)) := by
  unfold bld
  refine fn_ft c45 rfl (by simp only [Env.of, List.zipIdx, List.map]; rfl) ?_
  have h1 := bytesD_length l
  have h2 := bytesD_len s
  repeat' (first | ((with_reducible refine wcm ?_); first | refine cT (ft_copy0) ?_ | refine cT (ft_copy1) ?_) | refine dr ?_ | (refine ds ?_ ?_ <;> intro hb) | ((with_reducible refine dbm ?_); first | exact db_nil | refine dbc ?_ ?_) | ((with_reducible refine natle ?_); first | assumption | omega | (simp; omega)))
  simp [Ent.exp, PV.exp, PV.ids, bytesD_append, h1]
  simp [bytesD]
theorem ft_WS1 (l s : List UInt8) (hl : l.length + s.length ≤ 1073741824) : FT Γd 45 [.ptr 0 0, .d (.str s)] (bld (.ptr 0 0) l) (.tup [.d (.int .i64 s.length), .nili]) (bld (.ptr 0 0) (l ++ s)) := by
  unfold bld
  refine fn_ft c45 rfl (by simp only [Env.of, List.zipIdx, List.map]; rfl) ?_
  have h1 := bytesD_length l
  have h2 := bytesD_len s
  repeat' (first | ((with_reducible refine wcm ?_); first | refine cT (ft_copy0) ?_ | refine cT (ft_copy1) ?_) | refine dr ?_ | (refine ds ?_ ?_ <;> intro hb) | ((with_reducible refine dbm ?_); first | exact db_nil | refine dbc ?_ ?_) | ((with_reducible refine natle ?_); first | assumption | omega | (simp; omega)))
  simp [Ent.exp, PV.exp, PV.ids, bytesD_append, h1]
  simp [bytesD]
theorem ft_WB0 (l : List UInt8) (b : UInt8) (hl : l.length < 1073741824) : FT Γd 87 [.ptr 0 0, .d (.int .u8 b.toNat)] (bld .nilp l) .nili (bld (.ptr 0 0) (l ++ [b])) := by
  unfold bld
  refine fn_ft c87 rfl (by simp only [Env.of, List.zipIdx, List.map]; rfl) ?_
  have h1 := bytesD_length l
  repeat' (first | ((with_reducible refine wcm ?_); first | refine cT (ft_copy0) ?_ | refine cT (ft_copy1) ?_) | refine dr ?_ | (refine ds ?_ ?_ <;> intro hb) | ((with_reducible refine dbm ?_); first | exact db_nil | refine dbc ?_ ?_) | ((with_reducible refine natle ?_); first | assumption | omega | (simp; omega)))
  simp [Ent.exp, PV.exp, PV.ids, bytesD_append, h1]
  simp [bytesD]
theorem ft_WB1 (l : List UInt8) (b : UInt8) (hl : l.length < 1073741824) : FT Γd 87 [.ptr 0 0, .d (.int .u8 b.toNat)] (bld (.ptr 0 0) l) .nili (bld (.ptr 0 0) (l ++ [b])) := by
  unfold bld
  refine fn_ft c87 rfl (by simp only [Env.of, List.zipIdx, List.map]; rfl) ?_
  have h1 := bytesD_length l
  repeat' (first | ((with_reducible refine wcm ?_); first | refine cT (ft_copy0) ?_ | refine cT (ft_copy1) ?_) | refine dr ?_ | (refine ds ?_ ?_ <;> intro hb) | ((with_reducible refine dbm ?_); first | exact db_nil | refine dbc ?_ ?_) | ((with_reducible refine natle ?_); first | assumption | omega | (simp; omega)))
  simp [Ent.exp, PV.exp, PV.ids, bytesD_append, h1]
  simp [bytesD]
end Go.Plane
end
section
set_option linter.unusedVariables false
set_option linter.unusedSimpArgs false
set_option maxRecDepth 100000
namespace Go.Plane
open Go Go.Proofs
/-- A byte that must not stand in a comment. -/
def isBad (b : UInt8) : Bool := decide (b.toNat < 32 ∨ 126 < b.toNat)
def badRune (x : Nat) : Bool := decide (x < 32) || decide (126 < x)
theorem f_badRune (x : Nat) (hx : x ≤ 1114111) : F Γd 112 [.d (.int .i32 x)] (.d (.bool (badRune x))) := by
  refine fn_of c112 rfl (by simp only [Env.of, List.zipIdx, List.map]; rfl) ?_
  have h0 : badRune x = (decide ((x : Int) < 32) || decide (126 < (x : Int))) := by
    unfold badRune
    rw [show decide (x < 32) = decide ((x : Int) < 32) by rw [decide_eq_decide]; omega, show decide (126 < x) = decide (126 < (x : Int)) by rw [decide_eq_decide]; omega]
  rw [h0]
  repeat' (first | refine dr ?_ | (refine ds ?_ ?_ <;> intro hb) | ((with_reducible refine dbm ?_); first | exact db_nil | refine dbc ?_ ?_) | ((with_reducible refine natle ?_); first | assumption | omega | (simp; omega)))
  all_goals (simp [*]; done)
def badIdx (s : List UInt8) : Int := match s.findIdx? isBad with
  | some i => i
  | none => -1
theorem idxFrom_bad (s : List UInt8) : ∀ (f pos : Nat), s.length - pos ≤ f → Lib.idxFuncFrom badRune true ⟨s.toArray⟩ f pos = match (s.drop pos).findIdx? isBad with
    | some i => (pos : Int) + i
    | none => -1
  | f, pos, hf => by
    have hsz : (⟨s.toArray⟩ : ByteArray).size = s.length := by simp [ByteArray.size]
    by_cases hp : pos < s.length
    · obtain ⟨f, rfl⟩ : ∃ g, f = g + 1 := ⟨f - 1, by omega⟩
      have hpos : pos < (⟨s.toArray⟩ : ByteArray).size := by rw [hsz]; exact hp
      have hget : (⟨s.toArray⟩ : ByteArray)[pos]'hpos = s[pos] := by simp [ByteArray.getElem_eq_getElem_data]
      rw [List.drop_eq_getElem_cons hp]
      unfold Lib.idxFuncFrom
      rw [if_pos hpos, List.findIdx?_cons]
      rcases Nat.lt_or_ge (s[pos]).toNat 128 with h | h
      · rw [decode_ascii _ _ hpos (by rw [hget]; exact h), hget]
        simp only
        have hb : badRune (s[pos]).toNat = isBad s[pos] := by simp [badRune, isBad]
        rw [hb]
        cases hbad : isBad s[pos] with
        | true => simp
        | false =>
          simp only [Bool.false_eq_true, if_false]
          rw [idxFrom_bad s f (pos + 1) (by omega)]
          cases (s.drop (pos + 1)).findIdx? isBad with
          | none => rfl
          | some i =>
            simp only [Option.map_some]
            push_cast
            show (pos : Int) + 1 + (i : Int) = (pos : Int) + ((i : Int) + 1)
            omega
      · have hd := decode_high ⟨s.toArray⟩ pos hpos (by rw [hget]; exact h)
        have h1 : badRune (Utf8.decode ⟨s.toArray⟩ pos).1 = true := by simp [badRune]; omega
        have h2 : isBad s[pos] = true := by simp [isBad]; omega
        rw [h1, h2]
        simp
    · rw [Lib.idxFuncFrom_end _ _ _ _ _ (by rw [hsz]; exact hp), List.drop_of_length_le (by omega)]
      rfl
theorem f_noteBad (s : List UInt8) : F Γd 111 [.d (.str s), .fn 112 [] []] (.d (.int .i64 (badIdx s))) := by
  have h := F_IndexFunc 112 badRune f_badRune s
  have : Lib.idxFunc badRune true ⟨s.toArray⟩ = badIdx s := by
    unfold Lib.idxFunc badIdx
    rw [idxFrom_bad s _ 0 (by simp [ByteArray.size])]
    simp only [List.drop_zero]
    cases s.findIdx? isBad <;> simp
  rw [this] at h
  exact h

/-- A piece of a line: its kind, its text, at which byte, the error. -/
structure Pc where
  k : Int
  s : List UInt8
  a : Int
  e : Int
def Pc.row (p : Pc) : List D := [.int .i64 p.k, .str p.s, .int .i64 0, .int .i64 0, .int .i64 p.a, .int .i64 p.e]
/-- The piece that begins with no blank, and how many bytes it has. -/
def pieceM (a : Int) (b : UInt8) (r : List UInt8) : Pc × Nat :=
  if [45, 45].isPrefixOf (b :: r) then (if badIdx (b :: r) ≥ 0 then (⟨0, [], a + badIdx (b :: r), 2⟩, (b :: r).length) else (⟨6, b :: r, a, 0⟩, (b :: r).length))
  else if 0 < (List.takeWhile isPart (b :: r)).length ∧ b ≠ 95 then
    (⟨(shapeM ((b :: r).take (List.takeWhile isPart (b :: r)).length)).1, (b :: r).take (List.takeWhile isPart (b :: r)).length, a, (shapeM ((b :: r).take (List.takeWhile isPart (b :: r)).length)).2⟩, (List.takeWhile isPart (b :: r)).length)
  else (⟨5, signM (b :: r), a, if (signM (b :: r)).length = 0 then 2 else 0⟩, (signM (b :: r)).length)
def scanF : Nat → Nat → List UInt8 → List Pc
  | 0, _, _ => []
  | _ + 1, _, [] => []
  | f + 1, i, b :: r => if b = 32 then scanF f (i + 1) r else
    (pieceM i b r).1 :: if (pieceM i b r).1.e ≠ 0 then [] else scanF f (i + (pieceM i b r).2) ((b :: r).drop (pieceM i b r).2)
/-- The pieces of a line, up to the first error. -/
def scanM (s : List UInt8) : List Pc := scanF s.length 0 s
end Go.Plane
end

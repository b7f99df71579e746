/- A part of the proof: the calculus over pure values, contracts of functions, and plain lemmas. -/
import Derived.Test.YtccejlonkoafgaaDoorW7
section
set_option linter.unnecessarySimpa false
set_option linter.unusedVariables false
set_option linter.unusedSimpArgs false
set_option maxRecDepth 100000
set_option maxHeartbeats 4000000
namespace Go.Plane
open Go Go.Proofs
attribute [local irreducible] wops wio wic wdt wdb onOut
/-- **LexPlaces.** -/
theorem law_Places (s : List UInt8) (p1 p2 off a b : Int) (x : List UInt8) (l : List (List UInt8)) : F Γd 3 [.d (.str s), .agg [.int .i64 p1, .int .i64 p2], .d (.int .i64 off), .agg [.int .i64 a, .int .i64 b, .str x], .d (.slice (strsD l))] (.d (.bool true)) := by
  refine fn_of c3 rfl (by simp only [Env.of, List.zipIdx, List.map]; rfl) ?_
  have hsan := f_sanity
  have hsh := f_short s
  have hk := strsD_length l
  cases hsm : shortM s with
  | false =>
    rw [hsm] at hsh
    repeat' (first | ((with_reducible refine wcm ?_); first | refine cF (hsh) ?_ | refine cF (hsan) ?_) | refine dr ?_ | (refine ds ?_ ?_ <;> intro hb) | ((with_reducible refine dbm ?_); first | exact db_nil | refine dbc ?_ ?_) | ((with_reducible refine natle ?_); first | assumption | omega | (simp; omega)))
    all_goals (simp; done)
  | true =>
    rw [hsm] at hsh
    have hsl : s.length ≤ 20100 := by unfold shortM at hsm; have := of_decide_eq_true hsm; omega
    by_cases hx : 21000 < x.length
    · repeat' (first | ((with_reducible refine wcm ?_); first | refine cF (hsh) ?_ | refine cF (hsan) ?_) | refine dr ?_ | (refine ds ?_ ?_ <;> intro hb) | ((with_reducible refine dbm ?_); first | exact db_nil | refine dbc ?_ ?_) | ((with_reducible refine natle ?_); first | assumption | omega | (simp; omega)))
      all_goals (simp; done)
    by_cases hl : 30 < l.length
    · repeat' (first | ((with_reducible refine wcm ?_); first | refine cF (hsh) ?_ | refine cF (hsan) ?_) | refine dr ?_ | (refine ds ?_ ?_ <;> intro hb) | ((with_reducible refine dbm ?_); first | exact db_nil | refine dbc ?_ ?_) | ((with_reducible refine natle ?_); first | assumption | omega | (simp; omega)))
      all_goals (simp; done)
    repeat' (first | ((with_reducible refine wcm ?_); first | refine cF (hsh) ?_) | refine dr ?_ | (refine ds ?_ ?_ <;> intro hb) | ((with_reducible refine dbm ?_); first | exact db_nil | refine dbc ?_ ?_) | ((with_reducible refine natle ?_); first | assumption | omega | (simp; omega)))
    refine LP_for l (fun i _ => [(0, .d (.str s)), (2, .d (.int .i64 off)), (4, .d (.slice (strsD l))), (6, .ptr 0 0), (8, .ptr 1 0), (11, .d (.int .i64 i))])
      (fun _ _ => [.box 23 [.d (.int .i64 p1), .d (.int .i64 p2)], .box 25 [.d (.int .i64 a), .d (.int .i64 b), .d (.str x)]]) (fun i (_ : Unit) => ∀ y ∈ l.take i, y.length ≤ 900) () ?_ ?_ (by simp) ?_ ?_
    · (first | (simp [Env.shr, Env.get, PV.exp, PV.ids, PV.ids.idsL]; done) | simp [Env.shr, Env.get, PV.exp, PV.ids, PV.ids.idsL, *])
    · first | rfl | simp [shrink, Ent.exp, PV.exp, PV.ids]
    · rintro i y _ hy hi hI ih
      have hr := strsD_at hy
      by_cases h9 : 900 < y.length
      · clear ih
        repeat' (first | ((with_reducible refine wcm ?_); first | refine cF (hsan) ?_) | refine dr ?_ | (refine ds ?_ ?_ <;> intro hb) | ((with_reducible refine dbm ?_); first | exact db_nil | refine dbc ?_ ?_) | ((with_reducible refine natle ?_); first | assumption | omega | (simp; omega)))
        all_goals (simp; done)
      · have ih := ih () (fun z hz => by
          rw [List.take_add_one, hy, List.mem_append] at hz
          rcases hz with hz | hz
          · exact hI z hz
          · simp at hz; subst hz; omega)
        clear hI
        repeat' (first | refine dr ?_ | (refine ds ?_ ?_ <;> intro hb) | ((with_reducible refine dbm ?_); first | exact db_nil | refine dbc ?_ ?_) | ((with_reducible refine natle ?_); first | assumption | omega | (simp; omega)))
        refine LP_at ?_ ?_ ih
        · (first | (simp [Env.shr, Env.get, PV.exp, PV.ids, PV.ids.idsL]; done) | simp [Env.shr, Env.get, PV.exp, PV.ids, PV.ids.idsL, *])
        · simp [shrink, Ent.exp, PV.exp, PV.ids]
    · rintro _ hI
      rw [List.take_length] at hI
      have c1 := f_Offset s p1 p2 (by omega)
      have c2 := r_Offset s p1 p2 (by omega)
      have c3 := f_PlaceOf s off (by omega)
      have c4 := r_PlaceOf s off (by omega)
      have c5 := f_Edit s a b x (by omega) (by omega)
      have c6 := r_Edit s a b x (by omega) (by omega)
      have c7 := f_Join l (by omega) (fun y hy => by have := hI y hy; omega)
      have c8 := r_Join l (by omega) (fun y hy => by have := hI y hy; omega)
      generalize offsetM s p1 p2 = o at *
      generalize placeOfM s off = q at *
      generalize editM s a b x = e at *
      have hjl : (joinM l).2.1.length ≤ 4294967296 := by
        unfold joinM
        split
        · simp
        · split
          · simp
          · split
            · simp
            · simp only [startsM_len]; omega
      generalize joinM l = j at *
      have hji := intsD_length j.2.1
      clear hI hsm
      repeat' (first | ((with_reducible refine wcm ?_); first | refine cF (c1) ?_ | refine cF (c2) ?_ | refine cF (c3) ?_ | refine cF (c4) ?_ | refine cF (c5) ?_ | refine cF (c6) ?_ | refine cF (c7) ?_ | refine cF (c8) ?_) | refine dr ?_ | (refine ds ?_ ?_ <;> intro hb) | ((with_reducible refine dbm ?_); first | exact db_nil | refine dbc ?_ ?_) | ((with_reducible refine natle ?_); first | assumption | omega | (simp; omega)))
      refine LP_for j.2.1 (fun i _ => [(12, .d (.int .i64 o.1)), (13, .d (.int .i64 o.2)), (14, .ptr 2 0), (15, .ptr 3 0), (16, .d (.int .i64 q.2)), (17, .ptr 4 0), (18, .d (.str e.1)), (19, .d (.int .i64 e.2)), (20, .ptr 5 0), (22, .d (.slice (intsD j.2.1))), (24, .ptr 6 0), (25, .d (.int .i64 i))])
        (fun _ _ => [.box 23 [.d (.int .i64 p1), .d (.int .i64 p2)], .box 25 [.d (.int .i64 a), .d (.int .i64 b), .d (.str x)], .box 33 [.d (.int .i64 o.1), .d (.int .i64 o.2)], .box 23 [.d (.int .i64 q.1.1), .d (.int .i64 q.1.2)], .box 38 [.d (.int .i64 q.1.1), .d (.int .i64 q.1.2), .d (.int .i64 q.2)], .box 43 [.d (.str e.1), .d (.int .i64 e.2)], .box 49 [.d (.str j.1), .d (.slice (intsD j.2.1)), .d (.int .i64 j.2.2)]]) (fun _ (_ : Unit) => True) () ?_ ?_ trivial ?_ ?_
      · (first | (simp [Env.shr, Env.get, PV.exp, PV.ids, PV.ids.idsL]; done) | simp [Env.shr, Env.get, PV.exp, PV.ids, PV.ids.idsL, *])
      · first | rfl | simp [shrink, Ent.exp, PV.exp, PV.ids]
      · rintro i y _ hy hi _ ih
        have hr : (intsD j.2.1)[i]? = some [.int .i64 y] := by simp [intsD, hy]
        have ih := ih () trivial
        repeat' (first | refine dr ?_ | (refine ds ?_ ?_ <;> intro hb) | ((with_reducible refine dbm ?_); first | exact db_nil | refine dbc ?_ ?_) | ((with_reducible refine natle ?_); first | assumption | omega | (simp; omega)))
        refine LP_at ?_ ?_ ih
        · (first | (simp [Env.shr, Env.get, PV.exp, PV.ids, PV.ids.idsL]; done) | simp [Env.shr, Env.get, PV.exp, PV.ids, PV.ids.idsL, *])
        · simp [shrink, Ent.exp, PV.exp, PV.ids]
      · rintro _ _
        repeat' (first | ((with_reducible refine wcm ?_); first | refine cF (hsan) ?_) | refine dr ?_ | (refine ds ?_ ?_ <;> intro hb) | ((with_reducible refine dbm ?_); first | exact db_nil | refine dbc ?_ ?_) | ((with_reducible refine natle ?_); first | assumption | omega | (simp; omega)))
        all_goals (simp; done)
end Go.Plane
end
section
set_option linter.unnecessarySimpa false
set_option linter.unusedVariables false
set_option linter.unusedSimpArgs false
namespace Go.Plane
open Go Go.Proofs
/-! ### A scan, without its clock -/
theorem pieceM_pos {a : Int} {b : UInt8} {r : List UInt8} (h : (pieceM a b r).1.e = 0) : 0 < (pieceM a b r).2 := by
  unfold pieceM at h ⊢
  split
  · split <;> simp
  · rename_i h1
    rw [if_neg h1] at h
    split
    · rename_i h2; exact h2.1
    · rename_i h2
      rw [if_neg h2] at h
      simp only at h ⊢
      split at h
      · cases h
      · omega
theorem scanF_fuel : ∀ (f g i : Nat) (s : List UInt8), s.length ≤ f → s.length ≤ g → scanF f i s = scanF g i s
  | 0, g, i, s, hf, _ => by
    have : s = [] := List.eq_nil_of_length_eq_zero (by omega)
    subst this; rw [scan_nil, scan_nil]
  | f + 1, 0, i, s, _, hg => by
    have : s = [] := List.eq_nil_of_length_eq_zero (by omega)
    subst this; rw [scan_nil, scan_nil]
  | f + 1, g + 1, i, [], _, _ => rfl
  | f + 1, g + 1, i, b :: r, hf, hg => by
    simp only [List.length_cons] at hf hg
    simp only [scanF]
    split
    · exact scanF_fuel f g _ _ (by omega) (by omega)
    · congr 1
      split
      · rfl
      · rename_i he
        have hp := pieceM_pos (a := i) (b := b) (r := r) (by simpa using he)
        exact scanF_fuel f g _ _ (by simp; omega) (by simp; omega)
def scan (i : Nat) (s : List UInt8) : List Pc := scanF s.length i s
theorem scanM_eq (s : List UInt8) : scanM s = scan 0 s := rfl
theorem scan_nil' (i : Nat) : scan i [] = [] := rfl
theorem scan_blank (i : Nat) (r : List UInt8) : scan i (32 :: r) = scan (i + 1) r := by
  simp [scan, scanF]
theorem scan_err {i : Nat} {b : UInt8} {r : List UInt8} (hb : b ≠ 32) (he : (pieceM i b r).1.e ≠ 0) : scan i (b :: r) = [(pieceM i b r).1] := by
  simp only [scan, List.length_cons, scanF, if_neg hb, if_pos he]
theorem scan_ok {i : Nat} {b : UInt8} {r : List UInt8} (hb : b ≠ 32) (he : (pieceM i b r).1.e = 0) : scan i (b :: r) = (pieceM i b r).1 :: scan (i + (pieceM i b r).2) ((b :: r).drop (pieceM i b r).2) := by
  have hp := pieceM_pos he
  simp only [scan, List.length_cons, scanF, if_neg hb]
  rw [if_neg (by simp [he])]
  congr 1
  exact scanF_fuel _ _ _ _ (by simp; omega) (by simp)
/-- What holds at the end, behind a blank, at an error, and behind a piece. -/
theorem scan_ind {P : Nat → List UInt8 → Prop} (h0 : ∀ i : Nat, P i []) (h1 : ∀ (i : Nat) r, P (i + 1) r → P i (32 :: r)) (h2 : ∀ (i : Nat) b r, b ≠ 32 → (pieceM i b r).1.e ≠ 0 → P i (b :: r))
    (h3 : ∀ (i : Nat) b r, b ≠ 32 → (pieceM i b r).1.e = 0 → P (i + (pieceM i b r).2) ((b :: r).drop (pieceM i b r).2) → P i (b :: r)) : ∀ i s, P i s := by
  have : ∀ n i (s : List UInt8), s.length < n → P i s := by
    intro n
    induction n with
    | zero => intro i s h; omega
    | succ n ih =>
      intro i s hn
      cases s with
      | nil => exact h0 i
      | cons b r =>
        simp only [List.length_cons] at hn
        by_cases hb : b = 32
        · subst hb; exact h1 i r (ih _ _ (by omega))
        · by_cases he : (pieceM i b r).1.e = 0
          · have hp := pieceM_pos he
            exact h3 i b r hb he (ih _ _ (by simp; omega))
          · exact h2 i b r hb he
  exact fun i s => this (s.length + 1) i s (by omega)

/-! ### One piece -/
theorem prefix_take {u v : List UInt8} (h : u.isPrefixOf v = true) : v.take u.length = u := by
  obtain ⟨w, rfl⟩ := List.isPrefixOf_iff_prefix.1 h
  simp
theorem signM_prefix (s : List UInt8) : s.take (signM s).length = signM s := by
  unfold signM
  cases h : signs.find? (fun x => x.isPrefixOf s) with
  | none => simp
  | some x => exact prefix_take (u := x) (v := s) (by have := List.find?_some h; exact this)
theorem piece_text {a : Int} {b : UInt8} {r : List UInt8} (h : (pieceM a b r).1.e = 0) : (pieceM a b r).1.s = (b :: r).take (pieceM a b r).2 ∧ (pieceM a b r).1.a = a := by
  unfold pieceM at h ⊢
  split
  · rename_i h1
    rw [if_pos h1] at h
    split
    · rename_i h2; rw [if_pos h2] at h; cases h
    · simp
  · rename_i h1
    rw [if_neg h1] at h
    split
    · simp
    · rename_i h2
      simp only
      exact ⟨(signM_prefix _).symm, trivial⟩
theorem piece_len {a : Int} {b : UInt8} {r : List UInt8} (h : (pieceM a b r).1.e = 0) : (pieceM a b r).1.s.length = (pieceM a b r).2 := by
  rw [(piece_text h).1, List.length_take_of_le (pieceM_len a b r)]
theorem shapeM_ne6 (s : List UInt8) : (shapeM s).1 ≠ 6 := by
  unfold shapeM
  split
  · simp
  · split
    · split <;> simp
    · split
      · unfold wordM
        split
        · simp
        · split
          · simp
          · split
            · simp
            · split
              · simp
              · split <;> simp
      · split <;> simp
theorem shape_sign {s : List UInt8} (h : s ∈ signs) : shapeM s = (5, 0) := by
  have : ∀ x ∈ signs, shapeM x = (5, 0) := by decide +kernel
  exact this s h
/-- A piece of no error is a comment, or right. -/
theorem piece_right {a : Int} {b : UInt8} {r : List UInt8} (h : (pieceM a b r).1.e = 0) :
    ((pieceM a b r).1.k = 6 ∧ (pieceM a b r).1.s = b :: r ∧ (pieceM a b r).2 = (b :: r).length ∧ [45, 45].isPrefixOf (b :: r) = true) ∨ ((pieceM a b r).1.k ≠ 6 ∧ shapeM (pieceM a b r).1.s = ((pieceM a b r).1.k, 0) ∧ [45, 45].isPrefixOf (b :: r) = false) := by
  unfold pieceM at h ⊢
  split
  · rename_i h1
    rw [if_pos h1] at h
    split
    · rename_i h2; rw [if_pos h2] at h; cases h
    · left; exact ⟨rfl, rfl, rfl, h1⟩
  · rename_i h1
    rw [if_neg h1] at h
    right
    split
    · rename_i h2
      rw [if_pos h2] at h
      simp only at h ⊢
      exact ⟨shapeM_ne6 _, by rw [← h], by rw [Bool.eq_false_iff]; exact h1⟩
    · rename_i h2
      rw [if_neg h2] at h
      simp only at h ⊢
      have hne : signM (b :: r) ≠ [] := by
        intro h0
        rw [h0] at h
        simp at h
      have hm := (signM_mem rfl hne).1
      exact ⟨by decide, shape_sign hm, by rw [Bool.eq_false_iff]; exact h1⟩

/-! ### Moved -/
def Pc.mv (d : Int) (p : Pc) : Pc := { p with a := p.a + d }
theorem pieceM_mv (a d : Int) (b : UInt8) (r : List UInt8) : pieceM (a + d) b r = ((pieceM a b r).1.mv d, (pieceM a b r).2) := by
  unfold pieceM
  split
  · split
    · simp only [Pc.mv]; congr 2; omega
    · rfl
  · split <;> rfl
theorem scan_mv (d : Nat) : ∀ (i : Nat) s, scan (i + d) s = (scan i s).map (Pc.mv d) := by
  refine scan_ind (fun i => rfl) (fun i r ih => ?_) (fun i b r hb he => ?_) (fun i b r hb he ih => ?_)
  · rw [scan_blank, scan_blank, ← ih, Nat.add_right_comm]
  · have hp : pieceM ((i + d : Nat) : Int) b r = ((pieceM i b r).1.mv d, (pieceM i b r).2) := by rw [← pieceM_mv]; push_cast; rfl
    rw [scan_err hb he, scan_err hb (by rw [hp]; exact he), hp]; rfl
  · have hp : pieceM ((i + d : Nat) : Int) b r = ((pieceM i b r).1.mv d, (pieceM i b r).2) := by rw [← pieceM_mv]; push_cast; rfl
    rw [scan_ok hb he, scan_ok hb (by rw [hp]; exact he), hp]
    simp only [List.map_cons]
    rw [← ih, Nat.add_right_comm]

/-! ### Where the pieces stand -/
theorem scan_from : ∀ (i : Nat) s, ∀ p ∈ scan i s, (i : Int) ≤ p.a := fun i s p hp => (scanF_at _ _ _ p hp).1
theorem scan_sorted : ∀ (i : Nat) s, (scan i s).Pairwise fun p q => p.a + (p.s.length : Int) ≤ q.a ∧ p.a < q.a := by
  refine scan_ind (fun i => ?_) (fun i r ih => ?_) (fun i b r hb he => ?_) (fun i b r hb he ih => ?_)
  · rw [scan_nil']; exact .nil
  · rw [scan_blank]; exact ih
  · rw [scan_err hb he]; exact List.pairwise_singleton _ _
  · rw [scan_ok hb he]
    refine List.pairwise_cons.2 ⟨fun q hq => ?_, ih⟩
    have h1 := scan_from _ _ q hq
    have h2 := pieceM_pos he
    rw [(piece_text he).2, piece_len he]
    push_cast at h1
    omega
/-- Each piece of no error stands where it says. -/
theorem scan_text : ∀ (i : Nat) s, ∀ p ∈ scan i s, p.e = 0 → ∃ n : Nat, p.a = (i + n : Nat) ∧ p.s <+: s.drop n ∧ p.s ≠ [] ∧ n + p.s.length ≤ s.length := by
  refine scan_ind (fun i => ?_) (fun i r ih => ?_) (fun i b r hb he => ?_) (fun i b r hb he ih => ?_)
  · rw [scan_nil']; intro p hp; cases hp
  · rw [scan_blank]
    intro p hp h0
    obtain ⟨n, h1, h2, h3, h4⟩ := ih p hp h0
    exact ⟨n + 1, by rw [h1]; omega, by simpa using h2, h3, by simp only [List.length_cons]; omega⟩
  · rw [scan_err hb he]
    intro p hp h0
    rw [List.mem_singleton] at hp
    subst hp
    exact absurd h0 he
  · rw [scan_ok hb he]
    intro p hp h0
    rcases List.mem_cons.1 hp with rfl | hp
    · have h2 := pieceM_pos he
      have h3 := piece_len he
      have h4 := pieceM_len i b r
      refine ⟨0, by rw [(piece_text he).2]; simp, ?_, fun h => ?_, by omega⟩
      · rw [(piece_text he).1]; exact List.take_prefix _ _
      · rw [h] at h3; simp at h3; omega
    · obtain ⟨n, h1, h2, h3, h4⟩ := ih p hp h0
      refine ⟨(pieceM i b r).2 + n, by rw [h1]; omega, by rwa [List.drop_drop] at h2, h3, ?_⟩
      have := pieceM_len i b r
      rw [List.length_drop] at h4
      omega
/-- Each piece of no error is a comment, or right. -/
theorem scan_right : ∀ (i : Nat) s, ∀ p ∈ scan i s, p.e = 0 → p.k ≠ 6 → shapeM p.s = (p.k, 0) := by
  refine scan_ind (fun i => ?_) (fun i r ih => ?_) (fun i b r hb he => ?_) (fun i b r hb he ih => ?_)
  · rw [scan_nil']; intro p hp; cases hp
  · rw [scan_blank]; exact ih
  · rw [scan_err hb he]
    intro p hp h0
    rw [List.mem_singleton] at hp
    subst hp
    exact absurd h0 he
  · rw [scan_ok hb he]
    intro p hp h0 h6
    rcases List.mem_cons.1 hp with rfl | hp
    · rcases piece_right he with h | h
      · exact absurd h.1 h6
      · exact h.2.1
    · exact ih p hp h0 h6

/-! ### All lines -/
def allToks (want : Int → Bool) : Int → List (List UInt8) → List Tok
  | _, [] => []
  | l, s :: ls => keptOf want l (scanM s) ++ allToks want (l + 1) ls
def firstErr : Int → List (List UInt8) → Option (Int × Int × Int)
  | _, [] => none
  | l, s :: ls => match errOf (scanM s) with
    | some p => some (l, 1 + p.a, p.e)
    | none => firstErr (l + 1) ls
theorem readM_eq (want : Int → Bool) : ∀ (ls : List (List UInt8)) (l : Int) (acc : List Tok), readM want l ls acc = match firstErr l ls with
    | some e => ([], e)
    | none => (acc ++ allToks want l ls, 0, 0, 0)
  | [], l, acc => by simp [readM, firstErr, allToks]
  | s :: ls, l, acc => by
    simp only [readM, firstErr, allToks]
    cases errOf (scanM s) with
    | some p => rfl
    | none => simp only; rw [readM_eq want ls (l + 1)]; simp only [List.append_assoc]
theorem allToks_append (want : Int → Bool) : ∀ (a b : List (List UInt8)) (l : Int), allToks want l (a ++ b) = allToks want l a ++ allToks want (l + a.length) b
  | [], b, l => by simp [allToks]
  | s :: a, b, l => by
    simp only [List.cons_append, allToks, allToks_append want a b, List.length_cons, List.append_assoc]
    rw [show l + 1 + (a.length : Int) = l + ((a.length + 1 : Nat) : Int) by push_cast; omega]
theorem firstErr_append : ∀ (a b : List (List UInt8)) (l : Int), firstErr l (a ++ b) = (firstErr l a).or (firstErr (l + a.length) b)
  | [], b, l => by simp [firstErr]
  | s :: a, b, l => by
    simp only [List.cons_append, firstErr]
    cases errOf (scanM s) with
    | some p => rfl
    | none =>
      simp only
      rw [firstErr_append a b, List.length_cons, show l + 1 + (a.length : Int) = l + ((a.length + 1 : Nat) : Int) by push_cast; omega]
theorem keptOf_shift (want : Int → Bool) (l d : Int) (ps : List Pc) : keptOf want (l + d) ps = (keptOf want l ps).map (shiftT d) := by
  simp only [keptOf, List.map_map]
  rfl
theorem allToks_shift (want : Int → Bool) (d : Int) : ∀ (ls : List (List UInt8)) (l : Int), allToks want (l + d) ls = (allToks want l ls).map (shiftT d)
  | [], _ => rfl
  | s :: ls, l => by
    simp only [allToks, List.map_append, keptOf_shift]
    rw [show l + d + 1 = l + 1 + d by omega, allToks_shift want d ls]
theorem firstErr_shift (d : Int) : ∀ (ls : List (List UInt8)) (l : Int), firstErr (l + d) ls = (firstErr l ls).map fun e => (e.1 + d, e.2)
  | [], _ => rfl
  | s :: ls, l => by
    simp only [firstErr]
    cases errOf (scanM s) with
    | some p => rfl
    | none => simp only; rw [show l + d + 1 = l + 1 + d by omega, firstErr_shift d ls]
theorem allToks_len (want : Int → Bool) : ∀ (ls : List (List UInt8)) (l : Int), (allToks want l ls).length ≤ (ls.map List.length).sum
  | [], _ => by simp [allToks]
  | s :: ls, l => by
    have h1 := keptOf_len want l (scanM s)
    have h2 := scanM_len s
    have h3 := allToks_len want ls (l + 1)
    simp only [allToks, List.length_append, List.map_cons, List.sum_cons]
    omega
theorem keptOf_line {want : Int → Bool} {l : Int} {ps : List Pc} {t : Tok} (h : t ∈ keptOf want l ps) : t.l = l ∧ ∃ p ∈ ps, want p.k = true ∧ t = tokOf l p := by
  simp only [keptOf, List.mem_map, List.mem_filter] at h
  obtain ⟨p, ⟨h1, h2⟩, rfl⟩ := h
  exact ⟨rfl, p, h1, h2, rfl⟩
theorem allToks_mem (want : Int → Bool) : ∀ (ls : List (List UInt8)) (l : Int) (t : Tok), t ∈ allToks want l ls → ∃ (j : Nat) (x : List UInt8), ls[j]? = some x ∧ t ∈ keptOf want (l + j) (scanM x)
  | [], _, _, h => by cases h
  | s :: ls, l, t, h => by
    rcases List.mem_append.1 h with h | h
    · exact ⟨0, s, rfl, by simpa using h⟩
    · obtain ⟨j, x, h1, h2⟩ := allToks_mem want ls (l + 1) t h
      exact ⟨j + 1, x, by simpa using h1, by rw [show l + ((j + 1 : Nat) : Int) = l + 1 + j by push_cast; omega]; exact h2⟩
theorem firstErr_none {ls : List (List UInt8)} {l : Int} (h : firstErr l ls = none) : ∀ x ∈ ls, errOf (scanM x) = none := by
  induction ls generalizing l with
  | nil => simp
  | cons s ls ih =>
    simp only [firstErr] at h
    cases he : errOf (scanM s) with
    | some p => rw [he] at h; cases h
    | none =>
      rw [he] at h
      intro x hx
      rcases List.mem_cons.1 hx with rfl | hx
      · exact he
      · exact ih h x hx
theorem errOf_none {ps : List Pc} (h : errOf ps = none) : ∀ p ∈ ps, p.e = 0 := by
  intro p hp
  have := List.find?_eq_none.1 h p hp
  simpa using this
theorem tokensM_small {s : List UInt8} (h : s.length ≤ 6000) : tokensM s = readM isTok 1 (splitL 10 s) [] := by
  unfold tokensM
  rw [if_neg (by omega), if_neg]
  rintro ⟨_, h2⟩
  have h3 := readM_len isTok (splitL 10 s) 1 []
  have h4 := splitL_sum 10 s
  simp only [List.length_nil] at h3
  omega
theorem splitL_no (c : UInt8) : ∀ (s : List UInt8), ∀ x ∈ splitL c s, c ∉ x
  | [] => by simp [splitL]
  | b :: s => by
    have ih := splitL_no c s
    unfold splitL
    split
    · intro x hx
      rcases List.mem_cons.1 hx with rfl | hx
      · simp
      · exact ih x hx
    · rename_i hb
      cases he : splitL c s with
      | nil => exact absurd he (splitL_ne c s)
      | cons y r =>
        rw [he] at ih
        intro x hx
        rcases List.mem_cons.1 hx with rfl | hx
        · simp only [List.mem_cons, not_or]
          exact ⟨fun h => hb h.symm, ih y (by simp)⟩
        · exact ih x (by simp [hx])
theorem splitL_one {c : UInt8} {s : List UInt8} (h : c ∉ s) : splitL c s = [s] := splitL_none c s (fun b hb he => h (he ▸ hb))
/-- The tokens of a line by itself. -/
theorem tokensM_line {x : List UInt8} (h : 10 ∉ x) (hl : x.length ≤ 6000) : tokensM x = match firstErr 1 [x] with
    | some e => ([], e)
    | none => (allToks isTok 1 [x], 0, 0, 0) := by
  rw [tokensM_small hl, splitL_one h, readM_eq]
  rfl
end Go.Plane
end
section
set_option linter.unnecessarySimpa false
set_option linter.unusedVariables false
set_option linter.unusedSimpArgs false
namespace Go.Plane
open Go Go.Proofs
/-! ### Lines of texts -/
theorem ends_of {α : Type} (d : α) : ∀ {l : List α}, l ≠ [] → l = l.dropLast ++ [l.getLastD d]
  | [], h => absurd rfl h
  | [x], _ => rfl
  | x :: y :: l, _ => by
    have ih := ends_of d (l := y :: l) (by simp)
    simp only [List.dropLast_cons_of_ne_nil (List.cons_ne_nil y l), List.cons_append]
    rw [show (x :: y :: l).getLastD d = (y :: l).getLastD d by simp [List.getLastD]]
    rw [← ih]
theorem splitL_cons_ne {b c : UInt8} (h : b ≠ c) (s : List UInt8) : ∃ x r, splitL c s = x :: r ∧ splitL c (b :: s) = (b :: x) :: r := by
  cases he : splitL c s with
  | nil => exact absurd he (splitL_ne c s)
  | cons x r => exact ⟨x, r, rfl, by simp [splitL, h, he]⟩
theorem splitL_cons_eq (c : UInt8) (s : List UInt8) : splitL c (c :: s) = [] :: splitL c s := by simp [splitL]
theorem splitL_single (c : UInt8) : ∀ (u x : List UInt8), splitL c u = [x] → u = x
  | [], x, h => by simpa [splitL] using h
  | b :: u, x, h => by
    by_cases hb : b = c
    · subst hb
      rw [splitL_cons_eq] at h
      exact absurd (List.cons.inj h).2 (splitL_ne b u)
    · obtain ⟨y, r, h1, h2⟩ := splitL_cons_ne hb u
      rw [h2] at h
      obtain ⟨rfl, rfl⟩ := List.cons.inj h
      rw [splitL_single c u y h1]
def lastLn (s : List UInt8) : List UInt8 := (splitL 10 s).getLastD []
def headLns (s : List UInt8) : List (List UInt8) := (splitL 10 s).dropLast
theorem splitL_ends (s : List UInt8) : splitL 10 s = headLns s ++ [lastLn s] := ends_of [] (splitL_ne 10 s)
theorem lastLn_no (s : List UInt8) : 10 ∉ lastLn s := splitL_no 10 s _ (by rw [splitL_ends]; simp)
/-- All lines but the last of what stands ahead; then the last with what comes. -/
theorem splitL_append (v : List UInt8) : ∀ u, splitL 10 (u ++ v) = headLns u ++ splitL 10 (lastLn u ++ v)
  | [] => by simp [splitL, lastLn, headLns]
  | b :: u => by
    have ih := splitL_append v u
    by_cases hb : b = 10
    · subst hb
      have h1 : headLns (10 :: u) = [] :: headLns u := by
        unfold headLns; rw [splitL_cons_eq, List.dropLast_cons_of_ne_nil (splitL_ne 10 u)]
      have h2 : lastLn (10 :: u) = lastLn u := by
        unfold lastLn; rw [splitL_cons_eq]
        cases he : splitL 10 u with
        | nil => exact absurd he (splitL_ne 10 u)
        | cons y r => simp [List.getLastD]
      rw [h1, h2, List.cons_append, splitL_cons_eq, ih]
      rfl
    · obtain ⟨x, r, h1, h2⟩ := splitL_cons_ne hb u
      cases r with
      | nil =>
        have h6 := splitL_single 10 u x h1
        have h4 : lastLn (b :: u) = b :: x := by unfold lastLn; rw [h2]; rfl
        have h5 : headLns (b :: u) = [] := by unfold headLns; rw [h2]; rfl
        rw [h4, h5, h6]
        rfl
      | cons y r =>
        have h3 : lastLn (b :: u) = lastLn u := by
          unfold lastLn; rw [h1, h2]; simp [List.getLastD]
        have h4 : headLns (b :: u) = (b :: x) :: (y :: r).dropLast := by unfold headLns; rw [h2]; rfl
        have h5 : headLns u = x :: (y :: r).dropLast := by unfold headLns; rw [h1]; rfl
        rw [h3, h4, List.cons_append]
        rw [h5] at ih
        obtain ⟨x', r', k1, k2⟩ := splitL_cons_ne hb (u ++ v)
        rw [k2]
        rw [k1] at ih
        simp only [List.cons_append, List.cons.injEq] at ih ⊢
        exact ⟨⟨trivial, ih.1⟩, ih.2⟩
def headLn (s : List UInt8) : List UInt8 := (splitL 10 s).headD []
def tailLns (s : List UInt8) : List (List UInt8) := (splitL 10 s).tail
theorem splitL_front (s : List UInt8) : splitL 10 s = headLn s :: tailLns s := by
  unfold headLn tailLns
  cases h : splitL 10 s with
  | nil => exact absurd h (splitL_ne 10 s)
  | cons x r => rfl
theorem headLn_no (s : List UInt8) : 10 ∉ headLn s := splitL_no 10 s _ (by rw [splitL_front]; simp)
/-- What stands ahead with the first line; then the others. -/
theorem splitL_behind (v : List UInt8) : ∀ u, splitL 10 (u ++ v) = splitL 10 (u ++ headLn v) ++ tailLns v
  | [] => by
    rw [List.nil_append, List.nil_append, splitL_one (headLn_no v), splitL_front v]; rfl
  | b :: u => by
    have ih := splitL_behind v u
    by_cases hb : b = 10
    · subst hb
      rw [List.cons_append, List.cons_append, splitL_cons_eq, splitL_cons_eq, ih]; rfl
    · rw [List.cons_append, List.cons_append]
      obtain ⟨x, r, h1, h2⟩ := splitL_cons_ne hb (u ++ v)
      obtain ⟨x', r', k1, k2⟩ := splitL_cons_ne hb (u ++ headLn v)
      rw [h2, k2]
      rw [h1, k1] at ih
      simp only [List.cons_append, List.cons.injEq] at ih ⊢
      exact ⟨⟨trivial, ih.1⟩, ih.2⟩
theorem headLns_length (s : List UInt8) : (headLns s).length = s.count 10 := by
  have := splitL_length 10 s
  rw [splitL_ends] at this
  simpa using this
theorem bytesM_headLns (s : List UInt8) : bytesM (headLns s) + (lastLn s).length = s.length := by
  have := bytesM_split 10 s
  rw [splitL_ends, bytesM_append] at this
  simp [bytesM] at this ⊢
  omega
theorem getLastD_snoc {α : Type} (x d : α) : ∀ l : List α, (l ++ [x]).getLastD d = x
  | [] => rfl
  | [y] => rfl
  | y :: z :: l => by
    have ih := getLastD_snoc x d (z :: l)
    simpa [List.getLastD] using ih
theorem lastLn_snoc (s : List UInt8) (b : UInt8) : lastLn (s ++ [b]) = if b = 10 then [] else lastLn s ++ [b] := by
  show (splitL 10 (s ++ [b])).getLastD [] = _
  rw [splitL_append]
  by_cases hb : b = 10
  · subst hb
    rw [splitL_cut 10 (lastLn s) [] (fun x hx he => lastLn_no s (he ▸ hx)), if_pos rfl]
    have := getLastD_snoc ([] : List UInt8) [] (headLns s ++ [lastLn s])
    simpa [splitL] using this
  · rw [splitL_one (by simp only [List.mem_append, List.mem_singleton, not_or]; exact ⟨lastLn_no s, fun h => hb h.symm⟩), if_neg hb]
    exact getLastD_snoc _ _ _
theorem lastLn_len (s : List UInt8) : ((lastLn s).length : Int) = s.length - lastM s - 1 := by
  induction s using snoc_ind with
  | h0 => simp [lastLn, splitL, lastM_nil, List.getLastD]
  | h1 s b ih =>
    rw [lastLn_snoc, lastM_snoc]
    by_cases hb : b = 10
    · rw [if_pos hb, if_pos hb]
      simp only [List.length_append, List.length_singleton, List.length_nil]
      push_cast
      omega
    · rw [if_neg hb, if_neg hb]
      simp only [List.length_append, List.length_singleton]
      push_cast
      omega
/-- The place of an offset, by lines. -/
theorem placeOfM_eq {s : List UInt8} {n : Nat} (h : n ≤ s.length) : placeOfM s n = ((1 + ((headLns (s.take n)).length : Int), 1 + ((lastLn (s.take n)).length : Int)), 0) := by
  unfold placeOfM
  rw [if_neg (by omega), Int.toNat_natCast, headLns_length, lastLn_len, List.length_take_of_le h]
  congr 2
  omega
theorem offset_place {s : List UInt8} {n : Nat} (h : n ≤ s.length) : offsetM s (placeOfM s n).1.1 (placeOfM s n).1.2 = ((n : Int), 0) := by
  rw [placeOfM_eq h]
  simp only
  have hs : splitL 10 s = headLns (s.take n) ++ splitL 10 (lastLn (s.take n) ++ s.drop n) := by
    rw [← splitL_append, List.take_append_drop]
  have hb := bytesM_headLns (s.take n)
  rw [List.length_take_of_le h] at hb
  have hf := splitL_front (lastLn (s.take n) ++ s.drop n)
  have hl : (lastLn (s.take n)).length ≤ (headLn (lastLn (s.take n) ++ s.drop n)).length := by
    have h1 := splitL_behind (s.drop n) (lastLn (s.take n))
    have h2 : 10 ∉ lastLn (s.take n) ++ headLn (s.drop n) := by
      rw [List.mem_append]; exact fun h => h.elim (lastLn_no _) (headLn_no _)
    rw [splitL_one h2] at h1
    rw [h1] at hf
    have := (List.cons.inj hf).1
    rw [← this, List.length_append]
    omega
  rw [hf] at hs
  generalize headLns (s.take n) = A at *
  generalize lastLn (s.take n) = lu at *
  generalize headLn (lu ++ s.drop n) = y at *
  have e1 : (1 + (A.length : Int) - 1).toNat = A.length := by omega
  unfold offsetM
  rw [hs, e1]
  have e2 : (A ++ y :: tailLns (lu ++ s.drop n))[A.length]? = some y := by simp
  have e3 : (A ++ y :: tailLns (lu ++ s.drop n)).take A.length = A := by simp
  rw [e2, e3, Option.getD_some, if_neg]
  · congr 1; omega
  · simp only [List.length_append, List.length_cons]
    omega
/-- The lines of joined texts. -/
theorem splitL_LF (u v : List UInt8) : splitL 10 (u ++ [10] ++ v) = splitL 10 u ++ splitL 10 v := by
  rw [List.append_assoc, splitL_append, List.cons_append, List.nil_append, splitL_cut 10 _ _ (fun x hx he => lastLn_no u (he ▸ hx)), splitL_ends u]
  simp
theorem splitL_withLF : ∀ l : List (List UInt8), splitL 10 (withLF l) = l.flatMap (splitL 10) ++ [[]]
  | [] => by simp [withLF, splitL]
  | s :: l => by
    have ih := splitL_withLF l
    rw [show withLF (s :: l) = s ++ [10] ++ withLF l by simp [withLF], splitL_LF, ih]
    simp
theorem startsM_eq : ∀ (l : List (List UInt8)) (n : Int) (i : Nat), i < l.length → (startsM n l)[i]? = some (n + (((l.take i).flatMap (splitL 10)).length : Int))
  | [], _, i, h => by simp at h
  | s :: l, n, 0, _ => by simp [startsM]
  | s :: l, n, i + 1, h => by
    have ih := startsM_eq l (n + (1 + (s.count 10 : Int))) i (by simpa using h)
    simp only [startsM, List.getElem?_cons_succ, ih, List.take_succ_cons, List.flatMap_cons, List.length_append, splitL_length]
    congr 1
    push_cast
    omega

/-! ### A line in its text -/
theorem line_at : ∀ (s : List UInt8) (j : Nat) (x : List UInt8), (splitL 10 s)[j]? = some x → ∃ n : Nat, (n : Int) = bytesM ((splitL 10 s).take j) ∧ x <+: s.drop n ∧ n + x.length ≤ s.length
  | [], j, x, h => by
    cases j with
    | zero => simp [splitL] at h; subst h; exact ⟨0, by simp [bytesM], by simp, by simp⟩
    | succ j => simp [splitL] at h
  | b :: s, j, x, h => by
    by_cases hb : b = 10
    · subst hb
      rw [splitL_cons_eq] at h ⊢
      cases j with
      | zero => simp at h; subst h; exact ⟨0, by simp [bytesM], by simp, by simp⟩
      | succ j =>
        obtain ⟨n, h1, h2, h3⟩ := line_at s j x (by simpa using h)
        refine ⟨n + 1, ?_, by simpa using h2, by simp only [List.length_cons]; omega⟩
        simp only [List.take_succ_cons, bytesM, List.map_cons, List.sum_cons, List.length_nil] at h1 ⊢
        push_cast
        omega
    · obtain ⟨y, r, h1, h2⟩ := splitL_cons_ne hb s
      rw [h2] at h ⊢
      cases j with
      | zero =>
        simp at h
        subst h
        obtain ⟨n, k1, k2, k3⟩ := line_at s 0 y (by rw [h1]; rfl)
        simp [bytesM] at k1
        subst k1
        refine ⟨0, by simp [bytesM], ?_, by simp only [List.length_cons]; omega⟩
        simp only [List.drop_zero] at k2 ⊢
        exact List.cons_prefix_cons.2 ⟨rfl, k2⟩
      | succ j =>
        obtain ⟨n, k1, k2, k3⟩ := line_at s (j + 1) x (by rw [h1]; simpa using h)
        rw [h1] at k1
        refine ⟨n + 1, ?_, by simpa using k2, by simp only [List.length_cons]; omega⟩
        simp only [List.take_succ_cons, bytesM, List.map_cons, List.sum_cons, List.length_cons] at k1 ⊢
        push_cast
        omega

/-! ### Tokens in their text -/
theorem allToks_pairwise {want : Int → Bool} {R : Tok → Tok → Prop} : ∀ (ls : List (List UInt8)) (l : Int), (∀ (j : Nat) x, ls[j]? = some x → (keptOf want (l + j) (scanM x)).Pairwise R) →
    (∀ (i j : Nat) x y, i < j → ls[i]? = some x → ls[j]? = some y → ∀ t ∈ keptOf want (l + i) (scanM x), ∀ u ∈ keptOf want (l + j) (scanM y), R t u) → (allToks want l ls).Pairwise R
  | [], _, _, _ => .nil
  | s :: ls, l, h1, h2 => by
    simp only [allToks]
    refine List.pairwise_append.2 ⟨by simpa using h1 0 s rfl, allToks_pairwise ls (l + 1) (fun j x hx => ?_) (fun i j x y hij hx hy => ?_), fun t ht u hu => ?_⟩
    · have := h1 (j + 1) x (by simpa using hx)
      rwa [show l + ((j + 1 : Nat) : Int) = l + 1 + j by push_cast; omega] at this
    · have := h2 (i + 1) (j + 1) x y (by omega) (by simpa using hx) (by simpa using hy)
      rwa [show l + ((i + 1 : Nat) : Int) = l + 1 + i by push_cast; omega, show l + ((j + 1 : Nat) : Int) = l + 1 + j by push_cast; omega] at this
    · obtain ⟨j, x, hx, hm⟩ := allToks_mem want ls (l + 1) u hu
      refine h2 0 (j + 1) s x (by omega) rfl (by simpa using hx) t (by simpa using ht) u ?_
      rwa [show l + ((j + 1 : Nat) : Int) = l + 1 + j by push_cast; omega]
theorem bytesM_take_mono (l : List (List UInt8)) {i j : Nat} {x : List UInt8} (h : i < j) (hx : l[i]? = some x) : bytesM (l.take i) + x.length + 1 ≤ bytesM (l.take j) := by
  have h1 : l.take (i + 1) = (l.take j).take (i + 1) := by rw [List.take_take]; congr 1; omega
  have h2 := bytesM_take_le (l.take j) (i + 1)
  rw [← h1, bytesM_take_succ hx] at h2
  omega
/-- Where a token of the text stands. -/
theorem tok_at {want : Int → Bool} {s : List UInt8} {j : Nat} {x : List UInt8} (hx : (splitL 10 s)[j]? = some x) (he : errOf (scanM x) = none) {p : Pc} (hp : p ∈ scanM x) :
    ∃ n : Nat, offsetM s (1 + (j : Int)) (1 + p.a) = ((n : Int), 0) ∧ (n : Int) = bytesM ((splitL 10 s).take j) + p.a ∧ p.s <+: s.drop n ∧ p.s ≠ [] ∧ n + p.s.length ≤ s.length ∧ p.a + (p.s.length : Int) ≤ x.length ∧ 0 ≤ p.a := by
  obtain ⟨m, h1, h2, h3⟩ := line_at s j x hx
  obtain ⟨n, k1, k2, k3, k4⟩ := scan_text 0 x p hp (errOf_none he p hp)
  have hj := (List.getElem?_eq_some_iff.1 hx).1
  simp only [Nat.zero_add] at k1
  refine ⟨m + n, ?_, by rw [k1, ← h1]; push_cast; rfl, ?_, k3, by omega, by rw [k1]; omega, by omega⟩
  · unfold offsetM
    rw [show (1 + (j : Int) - 1).toNat = j by omega, hx, Option.getD_some, if_neg (by omega), ← h1, k1]
    congr 1
    push_cast
    omega
  · obtain ⟨r, hr⟩ := h2
    rw [← List.drop_drop, ← hr, List.drop_append_of_le_length (by omega)]
    exact k2.trans (List.prefix_append _ _)
theorem tok_of {want : Int → Bool} {s : List UInt8} (h0 : firstErr 1 (splitL 10 s) = none) {t : Tok} (ht : t ∈ allToks want 1 (splitL 10 s)) :
    ∃ n : Nat, offsetM s t.l t.c = ((n : Int), 0) ∧ t.s <+: s.drop n ∧ t.s ≠ [] ∧ n + t.s.length ≤ s.length := by
  obtain ⟨j, x, hx, hm⟩ := allToks_mem want _ 1 t ht
  obtain ⟨_, p, hp, _, rfl⟩ := keptOf_line hm
  obtain ⟨n, h1, _, h3, h4, h5, _⟩ := tok_at (want := want) hx (firstErr_none h0 x (List.mem_of_getElem? hx)) hp
  exact ⟨n, h1, h3, h4, h5⟩
theorem toks_order {want : Int → Bool} {s : List UInt8} (h0 : firstErr 1 (splitL 10 s) = none) :
    (allToks want 1 (splitL 10 s)).Pairwise fun t u => (offsetM s t.l t.c).1 + (t.s.length : Int) ≤ (offsetM s u.l u.c).1 ∧ (t.l < u.l ∨ t.l = u.l ∧ t.c < u.c) := by
  refine allToks_pairwise _ _ (fun j x hx => ?_) (fun i j x y hij hx hy t ht u hu => ?_)
  · have he := firstErr_none h0 x (List.mem_of_getElem? hx)
    unfold keptOf
    rw [List.pairwise_map]
    refine List.Pairwise.imp_of_mem ?_ ((scan_sorted 0 x).filter _)
    intro p q hp hq hpq
    obtain ⟨n, h1, h2, _⟩ := tok_at (want := want) hx he (List.mem_filter.1 hp).1
    obtain ⟨m, k1, k2, _⟩ := tok_at (want := want) hx he (List.mem_filter.1 hq).1
    simp only [tokOf, h1, k1]
    refine ⟨by omega, .inr ⟨trivial, by omega⟩⟩
  · obtain ⟨_, p, hp, _, rfl⟩ := keptOf_line ht
    obtain ⟨_, q, hq, _, rfl⟩ := keptOf_line hu
    obtain ⟨n, h1, h2, _, _, _, h6, _⟩ := tok_at (want := want) hx (firstErr_none h0 x (List.mem_of_getElem? hx)) hp
    obtain ⟨m, k1, k2, _, _, _, _, k7⟩ := tok_at (want := want) hy (firstErr_none h0 y (List.mem_of_getElem? hy)) hq
    have := bytesM_take_mono (splitL 10 s) hij hx
    simp only [tokOf, h1, k1]
    refine ⟨by omega, .inl (by omega)⟩
/-- The tokens of a text stand in it, in order. -/
theorem okToks_of {s : List UInt8} : ∀ (l : List Tok) (o : Option Tok), (∀ t ∈ l, (offsetM s t.l t.c).2 = 0) → l.Pairwise (fun t u => t.l < u.l ∨ t.l = u.l ∧ t.c < u.c) →
    (∀ p, o = some p → ∀ t ∈ l, p.l < t.l ∨ p.l = t.l ∧ p.c < t.c) → okToks s o l = true
  | [], _, _, _, _ => rfl
  | t :: l, o, h1, h2, h3 => by
    simp only [okToks, Bool.and_eq_true]
    refine ⟨?_, okToks_of l (some t) (fun u hu => h1 u (by simp [hu])) (List.pairwise_cons.1 h2).2 (fun p hp u hu => by cases hp; exact (List.pairwise_cons.1 h2).1 u hu)⟩
    have e := h1 t (by simp)
    cases o with
    | none => simp [okAt, e]
    | some p =>
      have hp := h3 p rfl t (by simp)
      simp only [okAt, e, decide_true, Bool.true_and, Bool.not_eq_true', Bool.or_eq_false_iff, decide_eq_false_iff_not]
      refine ⟨by omega, ?_⟩
      unfold compareM
      rcases hp with hp | ⟨hp, hq⟩
      · rw [show cmpM p.l t.l = -1 by unfold cmpM; rw [if_pos hp]]; simp
      · rw [show cmpM p.l t.l = 0 by unfold cmpM; rw [if_neg (by omega), if_neg (by omega)], show cmpM p.c t.c = -1 by unfold cmpM; rw [if_pos hq]]; simp
theorem okToks_own {s : List UInt8} (h0 : firstErr 1 (splitL 10 s) = none) : okToks s none (allToks isTok 1 (splitL 10 s)) = true :=
  okToks_of _ _ (fun t ht => by obtain ⟨n, h1, _⟩ := tok_of h0 ht; rw [h1]) ((toks_order h0).imp fun h => h.2) (fun p hp => by cases hp)

/-! ### A patch of a text's own tokens -/
theorem filter_allToks_lt {want : Int → Bool} (f : Int) (ls : List (List UInt8)) (l : Int) (h : l + ls.length ≤ f) : (allToks want l ls).filter (fun y => decide (y.l < f)) = allToks want l ls := by
  rw [List.filter_eq_self]
  intro t ht
  obtain ⟨j, x, hx, hm⟩ := allToks_mem want ls l t ht
  have := (List.getElem?_eq_some_iff.1 hx).1
  rw [decide_eq_true_eq, (keptOf_line hm).1]
  omega
theorem allToks_lines {want : Int → Bool} {ls : List (List UInt8)} {l : Int} {t : Tok} (ht : t ∈ allToks want l ls) : l ≤ t.l ∧ t.l < l + ls.length := by
  obtain ⟨j, x, hx, hm⟩ := allToks_mem want ls l t ht
  have := (List.getElem?_eq_some_iff.1 hx).1
  rw [(keptOf_line hm).1]
  omega
theorem patch_own {s : List UInt8} (hs : s.length ≤ 3000) {a b : Int} {x : List UInt8} (hx : x.length ≤ 3000) (he : (editM s a b x).2 = 0) (h0 : firstErr 1 (splitL 10 s) = none) :
    ∃ n : Int, 0 ≤ n ∧ n ≤ (tokensM (editM s a b x).1).1.length ∧ patchM (allToks isTok 1 (splitL 10 s)) s a b x = ((tokensM (editM s a b x).1).1, n, ((tokensM (editM s a b x).1).2.1, (tokensM (editM s a b x).1).2.2.1), (tokensM (editM s a b x).1).2.2.2) := by
  have hab : 0 ≤ a ∧ a ≤ b ∧ b ≤ s.length := by
    unfold editM at he
    split at he
    · cases he
    · omega
  obtain ⟨a, rfl⟩ := Int.eq_ofNat_of_zero_le hab.1
  obtain ⟨b, rfl⟩ := Int.eq_ofNat_of_zero_le (show 0 ≤ b by omega)
  have hed : (editM s a b x).1 = s.take a ++ x ++ s.drop b := by
    unfold editM at he ⊢
    split at he
    · cases he
    · rename_i h1
      split at he
      · cases he
      · rename_i h2
        rw [if_neg h1, if_neg h2]; rfl
  have hlen : (s.take a ++ x ++ s.drop b).length ≤ 6000 := by
    simp only [List.length_append, List.length_take, List.length_drop]; omega
  unfold patchM
  rw [if_neg (by simp [he]), okToks_own h0, if_neg (by simp)]
  rw [hed, tokensM_small hlen]
  -- the old text, the new one, by lines
  have hs3 : s = s.take a ++ ((s.drop a).take (b - a) ++ s.drop b) := by
    rw [show s.drop b = (s.drop a).drop (b - a) by rw [List.drop_drop]; congr 1; omega, List.take_append_drop, List.take_append_drop]
  generalize hu : s.take a = u at *
  generalize hw : (s.drop a).take (b - a) = w at *
  generalize hv : s.drop b = v at *
  have hul : u.length = a := by rw [← hu, List.length_take_of_le (by omega)]
  have hwl : w.length = b - a := by rw [← hw, List.length_take_of_le (by rw [List.length_drop]; omega)]
  have hold : splitL 10 s = headLns u ++ (splitL 10 (lastLn u ++ w ++ headLn v) ++ tailLns v) := by
    rw [hs3, splitL_append, ← List.append_assoc (lastLn u), splitL_behind]
  have hnew : splitL 10 (u ++ x ++ v) = headLns u ++ (splitL 10 (lastLn u ++ x ++ headLn v) ++ tailLns v) := by
    rw [List.append_assoc, splitL_append, ← List.append_assoc (lastLn u), splitL_behind]
  have c0 : ∀ z : List UInt8, (lastLn u ++ z ++ headLn v).count 10 = z.count 10 := fun z => by
    rw [List.count_append, List.count_append, List.count_eq_zero.2 (lastLn_no u), List.count_eq_zero.2 (headLn_no v)]; omega
  have hB : (splitL 10 (lastLn u ++ w ++ headLn v)).length = w.count 10 + 1 := by rw [splitL_length, c0]
  have hB' : (splitL 10 (lastLn u ++ x ++ headLn v)).length = x.count 10 + 1 := by rw [splitL_length, c0]
  have hpa : (placeOfM s a).1.1 = 1 + ((headLns u).length : Int) := by
    unfold placeOfM
    rw [if_neg (by omega), Int.toNat_natCast, hu, headLns_length]
  have hpb : (placeOfM s b).1.1 = ((headLns u).length : Int) + (w.count 10 + 1 : Nat) := by
    have : s.take b = u ++ w := by
      rw [← hu, ← hw, ← List.take_add]; congr 1; omega
    unfold placeOfM
    rw [if_neg (by omega), Int.toNat_natCast, this, List.count_append, headLns_length]
    push_cast
    omega
  have hpe : (placeOfM (u ++ x ++ v) ((a : Int) + x.length)).1.1 = ((headLns u).length : Int) + (x.count 10 + 1 : Nat) := by
    have : (u ++ x ++ v).take ((a : Int) + x.length).toNat = u ++ x := by
      rw [List.take_append_of_le_length (by rw [List.length_append]; omega), List.take_of_length_le (by rw [List.length_append]; omega)]
    unfold placeOfM
    rw [if_neg (by simp only [List.length_append]; push_cast; omega), this, List.count_append, headLns_length]
    push_cast
    omega
  rw [hpa, hpb, hpe, hnew]
  generalize headLns u = A at *
  generalize splitL 10 (lastLn u ++ w ++ headLn v) = B at *
  generalize splitL 10 (lastLn u ++ x ++ headLn v) = B' at *
  generalize tailLns v = C at *
  have e1 : ((A.length : Int) + (x.count 10 + 1 : Nat)).toNat = A.length + B'.length := by omega
  have e2 : (1 + (A.length : Int) - 1).toNat = A.length := by omega
  have e3 : ((A ++ (B' ++ C)).take (A.length + B'.length)).drop A.length = B' := by
    rw [← List.append_assoc, List.take_append_of_le_length (by simp), List.take_of_length_le (by simp)]; simp
  rw [e1, e2, e3, hold]
  rw [hold, firstErr_append, Option.or_eq_none_iff, firstErr_append, Option.or_eq_none_iff] at h0
  obtain ⟨g1, g2, g3⟩ := h0
  have g3' : firstErr (1 + (A.length : Int) + B'.length) C = none := by
    have := firstErr_shift ((B'.length : Int) - B.length) C (1 + A.length + B.length)
    rw [g3, show 1 + (A.length : Int) + B.length + (B'.length - B.length) = 1 + A.length + B'.length by omega] at this
    exact this
  rw [readM_eq, readM_eq, firstErr_append, g1, Option.none_or, firstErr_append, g3', Option.or_none]
  cases hf : firstErr (1 + (A.length : Int)) B' with
  | some e =>
    have hne : e.2.2 ≠ 0 := by
      have : ∀ (ls : List (List UInt8)) (l : Int) e, firstErr l ls = some e → e.2.2 ≠ 0 := by
        intro ls
        induction ls with
        | nil => intro l e h; cases h
        | cons y ls ih =>
          intro l e h
          simp only [firstErr] at h
          cases hp : errOf (scanM y) with
          | none => rw [hp] at h; exact ih _ _ h
          | some p =>
            rw [hp] at h
            cases h
            have := List.find?_some hp
            simpa using this
      exact this _ _ _ hf
    exact ⟨0, Int.le_refl _, by simp, by simp [patchT, hne]⟩
  | none =>
    simp only [List.nil_append]
    have k1 : (allToks isTok 1 (A ++ (B ++ C))).filter (fun y => decide (y.l < 1 + (A.length : Int))) = allToks isTok 1 A := by
      rw [allToks_append, List.filter_append, filter_allToks_lt _ _ _ (by omega)]
      rw [List.filter_eq_nil_iff.2, List.append_nil]
      intro t ht
      have := allToks_lines ht
      simp; omega
    have k2 : ((allToks isTok 1 (A ++ (B ++ C))).filter (fun y => !decide (y.l < 1 + (A.length : Int)) && decide ((A.length : Int) + (w.count 10 + 1 : Nat) < y.l))).map (shiftT ((A.length : Int) + (x.count 10 + 1 : Nat) - ((A.length : Int) + (w.count 10 + 1 : Nat)))) = allToks isTok (1 + (A.length : Int) + B'.length) C := by
      obtain ⟨P, hP⟩ : ∃ P : Tok → Bool, P = fun y => !decide (y.l < 1 + (A.length : Int)) && decide ((A.length : Int) + (w.count 10 + 1 : Nat) < y.l) := ⟨_, rfl⟩
      rw [← hP]
      have f1 : (allToks isTok 1 A).filter P = [] := List.filter_eq_nil_iff.2 fun t ht => by
        have := allToks_lines ht
        rw [hP]; simp; omega
      have f2 : (allToks isTok (1 + (A.length : Int)) B).filter P = [] := List.filter_eq_nil_iff.2 fun t ht => by
        have := allToks_lines ht
        rw [hP]; simp; omega
      have f3 : (allToks isTok (1 + (A.length : Int) + B.length) C).filter P = allToks isTok (1 + (A.length : Int) + B.length) C := List.filter_eq_self.2 fun t ht => by
        have := allToks_lines ht
        rw [hP]; simp; omega
      rw [allToks_append, allToks_append, List.filter_append, List.filter_append, f1, f2, f3, List.nil_append, List.nil_append, ← allToks_shift]
      congr 1
      omega
    have hnl : (allToks isTok 1 (A ++ (B' ++ C))).length ≤ 6000 := by
      have h1 := allToks_len isTok (A ++ (B' ++ C)) 1
      have h2 := splitL_sum 10 (u ++ x ++ v)
      rw [hnew] at h2
      omega
    have hall : allToks isTok 1 A ++ (allToks isTok (1 + (A.length : Int)) B' ++ allToks isTok (1 + (A.length : Int) + B'.length) C) = allToks isTok 1 (A ++ (B' ++ C)) := by
      rw [allToks_append, allToks_append]
    refine ⟨(allToks isTok (1 + (A.length : Int)) B').length, by omega, ?_, ?_⟩
    · rw [← hall]
      simp only [List.length_append]
      omega
    · unfold patchT
      simp only [ne_eq, not_true, if_false]
      rw [k1, k2, hall, if_neg (by omega)]
end Go.Plane
end
section
set_option linter.unnecessarySimpa false
set_option linter.unusedVariables false
set_option linter.unusedSimpArgs false
set_option maxRecDepth 100000
set_option maxHeartbeats 4000000
namespace Go.Plane
open Go Go.Proofs
attribute [local irreducible] wops wio wic wdt wdb onOut
def setL (n : Int) (t : Tok) : Tok := { t with l := n }
theorem keptOf_set (want : Int → Bool) (l n : Int) (ps : List Pc) : (keptOf want l ps).map (setL n) = keptOf want n ps := by
  simp only [keptOf, List.map_map]
  rfl
theorem same_self (l : List Tok) (h : l.length ≤ 4294967296) : F Γd 24 [.d (.slice (toksD l)), .d (.slice (toksD l))] (.d (.bool true)) := by
  have := r_SameTokens l l h h
  simpa using this
/-- **LexLines.** -/
theorem law_Lines (s : List UInt8) (a b : Int) (x : List UInt8) : F Γd 4 [.d (.str s), .agg [.int .i64 a, .int .i64 b, .str x]] (.d (.bool true)) := by
  refine fn_of c4 rfl (by simp only [Env.of, List.zipIdx, List.map]; rfl) ?_
  have hsan := f_sanity
  by_cases hs : 400 < s.length
  · repeat' (first | ((with_reducible refine wcm ?_); first | refine cF (hsan) ?_) | refine dr ?_ | (refine ds ?_ ?_ <;> intro hb) | ((with_reducible refine dbm ?_); first | exact db_nil | refine dbc ?_ ?_) | ((with_reducible refine natle ?_); first | assumption | omega | (simp; omega)))
    all_goals (simp; done)
  by_cases hx : 100 < x.length
  · repeat' (first | ((with_reducible refine wcm ?_); first | refine cF (hsan) ?_) | refine dr ?_ | (refine ds ?_ ?_ <;> intro hb) | ((with_reducible refine dbm ?_); first | exact db_nil | refine dbc ?_ ?_) | ((with_reducible refine natle ?_); first | assumption | omega | (simp; omega)))
    all_goals (simp; done)
  have hT := f_Tokens s (by omega)
  have hSp := F_Split s 10 (by omega)
  have hln := strsD_length (splitL 10 s)
  have hcnt : (splitL 10 s).length ≤ s.length + 1 := by rw [splitL_length]; have := List.count_le_length (a := (10 : UInt8)) (l := s); omega
  have hTe : tokensM s = match firstErr 1 (splitL 10 s) with
    | some e => ([], e)
    | none => (allToks isTok 1 (splitL 10 s), 0, 0, 0) := by
    rw [tokensM_small (by omega), readM_eq]; rfl
  have hTl : (tokensM s).1.length ≤ 400 := by
    rw [tokensM_small (by omega)]
    have h1 := readM_len isTok (splitL 10 s) 1 []
    have h2 := splitL_sum 10 s
    simp only [List.length_nil] at h1
    omega
  generalize hTT : tokensM s = T at *
  obtain ⟨tl, t1, t2, t3⟩ := T
  simp only at hTl
  have htl := toksD_length tl
  simp only [readP] at hT
  repeat' (first | ((with_reducible refine wcm ?_); first | refine cF (hT) ?_ | refine cF (hSp) ?_) | refine dr ?_ | (refine ds ?_ ?_ <;> intro hb) | ((with_reducible refine dbm ?_); first | exact db_nil | refine dbc ?_ ?_) | ((with_reducible refine natle ?_); first | assumption | omega | (simp; omega)))
  refine LP_for (splitL 10 s) (fun i (acc : List Tok) => [(0, .d (.str s)), (3, .ptr 0 0), (5, .d (.slice (toksD tl))), (6, .ptr 1 0), (7, .d (.int .i64 t3)), (8, .lref 2 acc.length), (42, .d (.slice (strsD (splitL 10 s)))), (43, .d (.int .i64 (splitL 10 s).length)), (44, .d (.int .i64 i))])
    (fun _ acc => [.box 25 [.d (.int .i64 a), .d (.int .i64 b), .d (.str x)], .box 23 [.d (.int .i64 t1), .d (.int .i64 t2)], .lst (57, 4) (toksD acc)])
    (fun i acc => acc = allToks isTok 1 ((splitL 10 s).take i) ∧ firstErr 1 ((splitL 10 s).take i) = none) [] ?_ ?_ ⟨rfl, rfl⟩ ?_ ?_
  · (first | (simp [Env.shr, Env.get, PV.exp, PV.ids, PV.ids.idsL]; done) | simp [Env.shr, Env.get, PV.exp, PV.ids, PV.ids.idsL, *])
  · first | rfl | simp [shrink, Ent.exp, PV.exp, PV.ids, toksD]
  · rintro i y acc hy hi ⟨hacc, herr⟩ ih
    have hr := strsD_at hy
    have hyl : y.length ≤ s.length := splitL_le 10 s y (List.mem_of_getElem? hy)
    have hno := splitL_no 10 s y (List.mem_of_getElem? hy)
    have hYT := f_Tokens y (by omega)
    rw [tokensM_line hno (by omega)] at hYT
    have htk : (splitL 10 s).take (i + 1) = (splitL 10 s).take i ++ [y] := by rw [List.take_add_one, hy]; rfl
    have hti : ((splitL 10 s).take i).length = i := by rw [List.length_take]; omega
    have haccl : acc.length ≤ 400 := by
      rw [hacc]
      have h1 := allToks_len isTok ((splitL 10 s).take i) 1
      have h2 : (((splitL 10 s).take i).map List.length).sum ≤ ((splitL 10 s).map List.length).sum := by
        conv => rhs; rw [← List.take_append_drop i (splitL 10 s), List.map_append, List.sum_append]
        omega
      have h3 := splitL_sum 10 s
      omega
    cases hey : errOf (scanM y) with
    | some p =>
      have hfe : firstErr 1 (splitL 10 s) = some (1 + (i : Int), 1 + p.a, p.e) := by
        rw [← List.take_append_drop i (splitL 10 s), firstErr_append, herr, Option.none_or, hti, List.drop_eq_getElem_cons hi]
        have : (splitL 10 s)[i] = y := by have := List.getElem?_eq_getElem hi; rw [hy] at this; exact (Option.some.inj this).symm
        simp only [firstErr, this, hey]
      have hf1 : firstErr 1 [y] = some (1, 1 + p.a, p.e) := by simp only [firstErr, hey]
      rw [hfe] at hTe
      rw [hf1] at hYT
      simp only [Prod.mk.injEq] at hTe
      obtain ⟨rfl, rfl, rfl, rfl⟩ := hTe
      have hpe : p.e ≠ 0 := by
        have := List.find?_some hey
        simpa using this
      have h1i : (1 : Int) + i = i + 1 := by omega
      simp only [readP] at hYT
      clear ih hfe hf1 herr hacc htk hey
      repeat' (first | ((with_reducible refine wcm ?_); first | refine cF (hYT) ?_ | refine cF (hsan) ?_) | refine dr ?_ | (refine ds ?_ ?_ <;> intro hb) | ((with_reducible refine dbm ?_); first | exact db_nil | refine dbc ?_ ?_) | ((with_reducible refine natle ?_); first | assumption | omega | (simp; omega)))
      all_goals (simp [eqDs, D.eqv, h1i]; done)
    | none =>
      have hf1 : firstErr 1 [y] = none := by simp only [firstErr, hey]
      rw [hf1] at hYT
      simp only [readP, allToks, List.append_nil] at hYT
      have hml := keptOf_len isTok 1 (scanM y)
      have hsl := scanM_len y
      have hset := keptOf_set isTok 1 ((i : Int) + 1) (scanM y)
      have ih := ih (acc ++ keptOf isTok ((i : Int) + 1) (scanM y)) ⟨by rw [htk, allToks_append, ← hacc, hti]; simp [allToks, Int.add_comm], by rw [htk, firstErr_append, herr, hti]; simp only [firstErr, hey]; rfl⟩
      clear hf1 herr hacc htk hey hTe
      generalize keptOf isTok 1 (scanM y) = m at *
      have hmln := toksD_length m
      repeat' (first | ((with_reducible refine wcm ?_); first | refine cF (hYT) ?_) | refine dr ?_ | (refine ds ?_ ?_ <;> intro hb) | ((with_reducible refine dbm ?_); first | exact db_nil | refine dbc ?_ ?_) | ((with_reducible refine natle ?_); first | assumption | omega | (simp; omega)))
      refine LP_for m (fun k (c : List Tok) => [(0, .d (.str s)), (3, .ptr 0 0), (5, .d (.slice (toksD tl))), (6, .ptr 1 0), (7, .d (.int .i64 t3)), (8, .lref 2 c.length), (9, .d (.int .i64 i)), (42, .d (.slice (strsD (splitL 10 s)))), (43, .d (.int .i64 (splitL 10 s).length)), (44, .d (.int .i64 i)), (72, .d (.slice (toksD m))), (73, .d (.int .i64 m.length)), (74, .d (.int .i64 k))])
        (fun _ c => [.box 25 [.d (.int .i64 a), .d (.int .i64 b), .d (.str x)], .box 23 [.d (.int .i64 t1), .d (.int .i64 t2)], .lst (57, 4) (toksD c), .box 23 [.d (.int .i64 0), .d (.int .i64 0)]])
        (fun k c => c = acc ++ (m.take k).map (setL ((i : Int) + 1))) acc ?_ ?_ (by simp) ?_ ?_
      · (first | (simp [Env.shr, Env.get, PV.exp, PV.ids, PV.ids.idsL]; done) | simp [Env.shr, Env.get, PV.exp, PV.ids, PV.ids.idsL, *])
      · first | rfl | simp [shrink, Ent.exp, PV.exp, PV.ids, toksD]
      · rintro k t c ht hk hc ih2
        have hrt := toksD_at ht
        have hcl : c.length ≤ 800 := by rw [hc]; simp; omega
        have hcd := toksD_length c
        have hcd2 := toksD_len c
        have ih2 := ih2 (c ++ [setL ((i : Int) + 1) t]) (by rw [List.take_add_one, ht, hc]; simp)
        clear hc ih
        repeat' (first | refine dr ?_ | (refine ds ?_ ?_ <;> intro hb) | ((with_reducible refine dbm ?_); first | exact db_nil | refine dbc ?_ ?_) | ((with_reducible refine natle ?_); first | assumption | omega | (simp; omega)))
        refine LP_at ?_ ?_ ih2
        · (first | (simp [Env.shr, Env.get, PV.exp, PV.ids, PV.ids.idsL]; done) | simp [Env.shr, Env.get, PV.exp, PV.ids, PV.ids.idsL, *])
        · simp [shrink, Ent.exp, PV.exp, PV.ids, toksD, setL]
      · rintro c hc
        rw [List.take_length, hset] at hc
        subst hc
        repeat' (first | refine dr ?_ | (refine ds ?_ ?_ <;> intro hb) | ((with_reducible refine dbm ?_); first | exact db_nil | refine dbc ?_ ?_) | ((with_reducible refine natle ?_); first | assumption | omega | (simp; omega)))
        refine LP_at ?_ ?_ ih
        · (first | (simp [Env.shr, Env.get, PV.exp, PV.ids, PV.ids.idsL]; done) | simp [Env.shr, Env.get, PV.exp, PV.ids, PV.ids.idsL, *])
        · simp [shrink, Ent.exp, PV.exp, PV.ids, toksD]
  · rintro acc ⟨hacc, herr⟩
    rw [List.take_length] at hacc herr
    rw [herr] at hTe
    simp only [Prod.mk.injEq] at hTe
    obtain ⟨rfl, rfl, rfl, rfl⟩ := hTe
    subst hacc
    have hsame := same_self (allToks isTok 1 (splitL 10 s)) (by omega)
    have hE := f_Edit s a b x (by omega) (by omega)
    have htake : (toksD (allToks isTok 1 (splitL 10 s))).take (allToks isTok 1 (splitL 10 s)).length = toksD (allToks isTok 1 (splitL 10 s)) := List.take_of_length_le (by rw [toksD_length]; exact Nat.le_refl _)
    by_cases he : (editM s a b x).2 = 0
    case neg =>
      generalize editM s a b x = e at *
      repeat' (first | ((with_reducible refine wcm ?_); first | refine cF (hsame) ?_ | refine cF (hE) ?_ | refine cF (hsan) ?_) | refine dr ?_ | (refine ds ?_ ?_ <;> intro hb) | ((with_reducible refine dbm ?_); first | exact db_nil | refine dbc ?_ ?_) | ((with_reducible refine natle ?_); first | assumption | omega | (simp; omega)))
      all_goals (simp; done)
    have hnl : (editM s a b x).1.length ≤ 500 := by
      unfold editM at he ⊢
      split at he
      · cases he
      · rename_i h1
        split at he
        · cases he
        · rename_i h2
          rw [if_neg h1, if_neg h2]
          simp only [List.length_append, List.length_take, List.length_drop]
          omega
    have hN := f_Tokens (editM s a b x).1 (by omega)
    have hP := f_Patch (allToks isTok 1 (splitL 10 s)) s a b x (by omega) (by omega) (by omega)
    obtain ⟨n, hn1, hn2, hpat⟩ := patch_own (s := s) (by omega) (a := a) (b := b) (x := x) (by omega) he herr
    rw [hpat] at hP
    have hNl : (tokensM (editM s a b x).1).1.length ≤ 6000 := by
      rw [tokensM_small (by omega)]
      have h1 := readM_len isTok (splitL 10 (editM s a b x).1) 1 []
      have h2 := splitL_sum 10 (editM s a b x).1
      simp only [List.length_nil] at h1
      omega
    have hsame2 := same_self (tokensM (editM s a b x).1).1 (by omega)
    have hNd := toksD_length (tokensM (editM s a b x).1).1
    clear hpat hnl
    generalize tokensM (editM s a b x).1 = N at *
    obtain ⟨nl, n1, n2, n3⟩ := N
    simp only [readP, patchP] at hN hP hn2 hsame2 hNl hNd
    generalize editM s a b x = e at *
    repeat' (first | ((with_reducible refine wcm ?_); first | refine cF (hsame) ?_ | refine cF (hE) ?_ | refine cF (hN) ?_ | refine cF (hP) ?_ | refine cF (hsame2) ?_ | refine cF (hsan) ?_) | refine dr ?_ | (refine ds ?_ ?_ <;> intro hb) | ((with_reducible refine dbm ?_); first | exact db_nil | refine dbc ?_ ?_) | ((with_reducible refine natle ?_); first | assumption | omega | (simp; omega)))
    all_goals (simp [eqDs, D.eqv, *]; done)
end Go.Plane
end

/- A part of the proof: the calculus over pure values, contracts of functions, and plain lemmas. -/
import Derived.Test.YtccejlonkoafgaaGreatDoorW10
import Derived.Test.YtccejlonkoafgaaGreatDoorW2
import Derived.Carry
import Derived.Deep.Slices
import Derived.SizedLaws
import Derived.Handed
import Derived.OpenShut
import Derived.RowKit
import Derived.Test.YtccejlonkoafgaaGreatDoorCards
import Derived.Test.YtccejlonkoafgaaGreatDoorTie
import Derived.Lay
import Derived.LaidMore
import Derived.MakeChecks
import Derived.Shelf.Vars
import Derived.Stop.Joined
import Derived.Stop.LaidErr
import Derived.SevenTiedAt
import Derived.Test.YtccejlonkoafgaaGreatDoorW4
section
set_option linter.unnecessarySimpa false
set_option linter.unusedVariables false
set_option linter.unusedSimpArgs false
set_option maxRecDepth 100000
set_option maxHeartbeats 8000000
namespace Go.Plane
open Go Go.Proofs
attribute [local irreducible] wops wio wic wdt wdb onOut
theorem cutB_pre (x : List UInt8) : cutB x <+: x := by
  rw [← cutB_take x]
  exact List.take_prefix _ _
theorem cutB_idem : ∀ x : List UInt8, cutB (cutB x) = cutB x
  | [] => rfl
  | b :: r => by
    have ih := cutB_idem r
    by_cases h : [45, 45].isPrefixOf (b :: r) = true
    · have : cutB (b :: r) = [] := by rw [cutB, if_pos h]
      rw [this]; rfl
    · have e : cutB (b :: r) = b :: cutB r := by rw [cutB, if_neg h]
      rw [e, cutB, if_neg, ih]
      intro h2
      apply h
      rw [List.isPrefixOf_iff_prefix] at h2 ⊢
      exact h2.trans (List.cons_prefix_cons.2 ⟨rfl, cutB_pre r⟩)
theorem cutB_small : ∀ x : List UInt8, x.length ≤ 1 → cutB x = x
  | [], _ => rfl
  | [b], _ => by
    rw [cutB, if_neg]
    · rfl
    · simp [List.isPrefixOf]
  | b :: c :: r, h => by simp at h
theorem trimB_snoc (v : List UInt8) (b : UInt8) : trimB (v ++ [b]) = if b = 32 then trimB v else v ++ [b] := by
  unfold trimB
  rw [List.reverse_append]
  simp only [List.reverse_cons, List.reverse_nil, List.nil_append, List.cons_append, List.dropWhile_cons]
  by_cases hb : b = 32
  · subst hb; simp
  · rw [if_neg (by simpa using hb), if_neg hb]; simp
theorem snoc_of (u : List UInt8) : u = [] ∨ ∃ v b, u = v ++ [b] := by
  rcases List.eq_nil_or_concat u with h | ⟨v, b, h⟩
  · exact .inl h
  · exact .inr ⟨v, b, by simpa using h⟩
/-- A line without its comment. -/
theorem r_bare (x : List UInt8) (hs : x.length ≤ 1000000000) : F Γz 50 [.d (.str x)] (.d (.str (bareM x))) := by
  refine fn_of c50 rfl (by simp only [Env.of, List.zipIdx, List.map]; rfl) ?_
  repeat' (first | refine dr ?_ | (refine ds ?_ ?_ <;> intro hb) | ((with_reducible refine dbm ?_); first | exact db_nil | refine dbc ?_ ?_) | ((with_reducible refine natle ?_); first | assumption | omega | (simp; omega)))
  refine LP_ind (α := Nat × List UInt8) (fun a => a.2.length + 2 - a.1) (fun a => [(0, .d (.str a.2)), (3, .d (.int .i64 a.1))]) (fun _ => [])
    (fun a => cutB a.2 = a.2.take a.1 ++ cutB (a.2.drop a.1) ∧ cutB a.2 = cutB x ∧ a.2.length ≤ x.length ∧ a.1 ≤ a.2.length + 1) (0, x) ?_ ?_ ⟨by simp, rfl, Nat.le_refl _, by omega⟩ ?_
  · (first | (simp [Env.shr, Env.get, PV.exp, PV.ids, PV.ids.idsL]; done) | simp [Env.shr, Env.get, PV.exp, PV.ids, PV.ids.idsL, *])
  · first | rfl | simp [shrink, Ent.exp, PV.exp, PV.ids]
  rintro ⟨i, u⟩ ⟨h1, h2, h3, h4⟩ ih
  simp only at h1 h2 h3 h4 ih
  apply LP_go
  by_cases hi : i + 1 < u.length
  · have hb : u[i]? = some u[i] := List.getElem?_eq_getElem (by omega)
    have hc : u[i + 1]? = some u[i + 1] := List.getElem?_eq_getElem hi
    have hd : u.drop i = u[i] :: u[i + 1] :: u.drop (i + 1 + 1) := by rw [List.drop_eq_getElem_cons (by omega), List.drop_eq_getElem_cons hi]
    have hd1 : u.drop (i + 1) = u[i + 1] :: u.drop (i + 1 + 1) := List.drop_eq_getElem_cons hi
    have ht1 : u.take (i + 1) = u.take i ++ [u[i]] := by rw [List.take_add_one, hb]; rfl
    generalize u[i] = b at *
    generalize u[i + 1] = c at *
    have hin : ((i : Int)).toNat = i := by omega
    have hin1 : ((i : Int) + 1).toNat = i + 1 := by omega
    have b45 := byteN b 45 (by decide)
    have c45 := byteN c 45 (by decide)
    have go : ¬ (b = 45 ∧ c = 45) → cutB u = u.take (i + 1) ++ cutB (u.drop (i + 1)) := fun hn => by
      rw [h1, ht1, hd, hd1, List.append_assoc, cutB, if_neg]
      · rfl
      · simp only [List.isPrefixOf, Bool.and_eq_true, beq_iff_eq]
        rintro ⟨k1, k2, _⟩
        exact hn ⟨k1.symm, k2.symm⟩
    by_cases hb45 : b = 45
    · by_cases hc45 : c = 45
      · have hcut : cutB u = u.take i := by
          rw [h1, hd, hb45, hc45, cutB, if_pos (by simp [List.isPrefixOf]), List.append_nil]
        have hid := cutB_idem u
        rw [hcut] at hid
        have htl : (u.take i).length = i := List.length_take_of_le (by omega)
        have ih := ih (i + 1, u.take i) ⟨by simp only; rw [hid, List.take_of_length_le (show (u.take i).length ≤ i + 1 by omega), List.drop_of_length_le (show (u.take i).length ≤ i + 1 by omega)]; simp [cutB], by simp only; rw [hid, ← hcut]; exact h2, by simp only; omega, by simp only; omega⟩ (by simp only; omega)
        have hbi := b45.2 hb45
        have hci := c45.2 hc45
        clear h1 h2 go hd hd1 ht1 hcut hid b45 c45 hb45 hc45
        repeat' (first | refine dr ?_ | (refine ds ?_ ?_ <;> intro hb) | ((with_reducible refine dbm ?_); first | exact db_nil | refine dbc ?_ ?_) | ((with_reducible refine natle ?_); first | assumption | omega | (simp; omega)))
        refine LP_at ?_ ?_ ih
        · (first | (simp [Env.shr, Env.get, PV.exp, PV.ids, PV.ids.idsL]; done) | simp [Env.shr, Env.get, PV.exp, PV.ids, PV.ids.idsL, *])
        · first | rfl | simp [shrink, Ent.exp, PV.exp, PV.ids]
      · have ih := ih (i + 1, u) ⟨go (fun h => hc45 h.2), h2, h3, by simp only; omega⟩ (by simp only; omega)
        have hbi := b45.2 hb45
        have hci : (c.toNat : Int) ≠ 45 := fun h => hc45 (c45.1 h)
        clear h1 h2 go hd hd1 ht1 b45 c45 hb45 hc45
        repeat' (first | refine dr ?_ | (refine ds ?_ ?_ <;> intro hb) | ((with_reducible refine dbm ?_); first | exact db_nil | refine dbc ?_ ?_) | ((with_reducible refine natle ?_); first | assumption | omega | (simp; omega)))
        refine LP_at ?_ ?_ ih
        · (first | (simp [Env.shr, Env.get, PV.exp, PV.ids, PV.ids.idsL]; done) | simp [Env.shr, Env.get, PV.exp, PV.ids, PV.ids.idsL, *])
        · first | rfl | simp [shrink, Ent.exp, PV.exp, PV.ids]
    · have ih := ih (i + 1, u) ⟨go (fun h => hb45 h.1), h2, h3, by simp only; omega⟩ (by simp only; omega)
      have hbi : (b.toNat : Int) ≠ 45 := fun h => hb45 (b45.1 h)
      clear h1 h2 go hd hd1 ht1 b45 c45 hb45
      repeat' (first | refine dr ?_ | (refine ds ?_ ?_ <;> intro hb) | ((with_reducible refine dbm ?_); first | exact db_nil | refine dbc ?_ ?_) | ((with_reducible refine natle ?_); first | assumption | omega | (simp; omega)))
      refine LP_at ?_ ?_ ih
      · (first | (simp [Env.shr, Env.get, PV.exp, PV.ids, PV.ids.idsL]; done) | simp [Env.shr, Env.get, PV.exp, PV.ids, PV.ids.idsL, *])
      · first | rfl | simp [shrink, Ent.exp, PV.exp, PV.ids]
  · have hux : u = cutB x := by
      rw [← h2, h1, cutB_small (u.drop i) (by rw [List.length_drop]; omega), List.take_append_drop]
    have hbx : bareM x = trimB u := by unfold bareM; rw [hux]
    rw [hbx]
    clear h1 h2 ih hux hbx
    repeat' (first | refine dr ?_ | (refine ds ?_ ?_ <;> intro hb) | ((with_reducible refine dbm ?_); first | exact db_nil | refine dbc ?_ ?_) | ((with_reducible refine natle ?_); first | assumption | omega | (simp; omega)))
    refine LP_ind (α := List UInt8) (fun a => a.length) (fun a => [(0, .d (.str a))]) (fun _ => []) (fun a => trimB a = trimB u ∧ a.length ≤ u.length) u ?_ ?_ ⟨rfl, Nat.le_refl _⟩ ?_
    · (first | (simp [Env.shr, Env.get, PV.exp, PV.ids, PV.ids.idsL]; done) | simp [Env.shr, Env.get, PV.exp, PV.ids, PV.ids.idsL, *])
    · first | rfl | simp [shrink, Ent.exp, PV.exp, PV.ids]
    rintro y ⟨k1, k2⟩ ih
    apply LP_go
    rcases snoc_of y with rfl | ⟨v, b, rfl⟩
    · rw [← k1]
      clear ih k1
      repeat' (first | refine dr ?_ | (refine ds ?_ ?_ <;> intro hb) | ((with_reducible refine dbm ?_); first | exact db_nil | refine dbc ?_ ?_) | ((with_reducible refine natle ?_); first | assumption | omega | (simp; omega)))
      all_goals (simp [trimB]; done)
    · rw [trimB_snoc] at k1
      have hU1 : (v ++ [b]).length = v.length + 1 := by simp
      have hU2 : (v ++ [b])[v.length]? = some b := by simp
      have hU3 : (v ++ [b]).take v.length = v := by simp
      have hn : ((v.length + 1 : Nat) : Int) - 1 = (v.length : Int) := by omega
      have b32 := byteN b 32 (by decide)
      by_cases hb : b = 32
      · rw [if_pos hb] at k1
        replace ih := ih v ⟨k1, by omega⟩ (by omega)
        have hbi := b32.2 hb
        clear k1 b32 hb
        generalize v ++ [b] = U at *
        repeat' (first | refine dr ?_ | (refine ds ?_ ?_ <;> intro hb) | ((with_reducible refine dbm ?_); first | exact db_nil | refine dbc ?_ ?_) | ((with_reducible refine natle ?_); first | assumption | omega | (simp; omega)))
        refine LP_at ?_ ?_ ih
        · (first | (simp [Env.shr, Env.get, PV.exp, PV.ids, PV.ids.idsL]; done) | simp [Env.shr, Env.get, PV.exp, PV.ids, PV.ids.idsL, *])
        · first | rfl | simp [shrink, Ent.exp, PV.exp, PV.ids]
      · rw [if_neg hb] at k1
        rw [← k1]
        have hbi : (b.toNat : Int) ≠ 32 := fun h => hb (b32.1 h)
        clear k1 b32 hb ih
        generalize v ++ [b] = U at *
        repeat' (first | refine dr ?_ | (refine ds ?_ ?_ <;> intro hb) | ((with_reducible refine dbm ?_); first | exact db_nil | refine dbc ?_ ?_) | ((with_reducible refine natle ?_); first | assumption | omega | (simp; omega)))
        all_goals (simp; done)
/-- The reference's text without comments. -/
theorem r_Strip (s : List UInt8) (hs : s.length ≤ 1000000) : F Γz 20 [.d (.str s)] (.agg [.str (stripM s).1, .int .i64 (stripM s).2]) := by
  refine fn_of c20 rfl (by simp only [Env.of, List.zipIdx, List.map]; rfl) ?_
  have hR := r_Tokens s (by omega)
  obtain ⟨q1, q2, q3, q4, q5, q6⟩ := rTokM_eq s
  have hne : (rTokM s).2.2.2.2 = (notesM s).2 := by rw [q5, q6]
  simp only [lexedP] at hR
  by_cases he : (notesM s).2 = 0
  case neg =>
    have : stripM s = ([], (notesM s).2) := by unfold stripM; rw [if_pos he]
    rw [this]
    rw [hne] at hR
    clear q1 q2 q3 q4 q5 q6 hne this
    generalize rTokM s = R at *
    generalize (notesM s).2 = e at *
    repeat' (first | ((with_reducible refine wcm ?_); first | refine cF (hR) ?_) | refine dr ?_ | (refine ds ?_ ?_ <;> intro hb) | ((with_reducible refine dbm ?_); first | exact db_nil | refine dbc ?_ ?_) | ((with_reducible refine natle ?_); first | assumption | omega | (simp; omega)))
    all_goals (simp; done)
  have hst : stripM s = ([10].intercalate ((splitL 10 s).map bareM), 0) := by unfold stripM; rw [if_neg (by rw [he]; simp)]
  rw [hst]
  rw [he] at hne
  have hL := r_lines s (by omega)
  have hle := splitL_le 10 s
  have hsum := splitL_sum 10 s
  have hcnt : (splitL 10 s).length ≤ s.length + 1 := by rw [splitL_length]; have := List.count_le_length (a := (10 : UInt8)) (l := s); omega
  have hsn := splitL_ne 10 s
  clear q1 q2 q3 q4 q5 q6 he hst
  generalize rTokM s = R at *
  generalize splitL 10 s = A at *
  have hAl := strsD_length A
  obtain ⟨x, B, rfl⟩ : ∃ x B, A = x :: B := by
    cases A with
    | nil => exact absurd rfl hsn
    | cons x B => exact ⟨x, B, rfl⟩
  have hb := r_bare x (by have := hle x (by simp); omega)
  have hx0 : (strsD (x :: B))[((0 : Int)).toNat]? = some [.str x] := rfl
  have hx00 : (strsD (x :: B))[0]? = some [.str x] := rfl
  have hAl2 : (x :: B).length = B.length + 1 := rfl
  rw [hAl2] at hAl hcnt
  have hat : ∀ (i : Nat) y, B[i]? = some y → (strsD (x :: B))[((i : Int) + 1).toNat]? = some [.str y] := fun i y hy => by
    rw [show ((i : Int) + 1).toNat = i + 1 by omega]
    exact strsD_at (show (x :: B)[i + 1]? = some y by simpa using hy)
  have hbd : ∀ i, ([10].intercalate (((x :: B).take (i + 1)).map bareM) : List UInt8).length ≤ 5000000 := fun i => by
    have h1 := inter_len (((x :: B).take (i + 1)).map bareM)
    have h2 := bare_sum ((x :: B).take (i + 1))
    have h3 := sum_sub (x :: B) (i + 1) 0
    rw [List.drop_zero] at h3
    rw [List.length_map, List.length_take] at h1
    simp only [List.length_cons] at h1
    omega
  clear hsn
  generalize hX : strsD (x :: B) = X at *
  repeat' (first | ((with_reducible refine wcm ?_); first | refine cF (hR) ?_ | refine cF (hL) ?_ | refine cF (hb) ?_) | refine dr ?_ | (refine ds ?_ ?_ <;> intro hb) | ((with_reducible refine dbm ?_); first | exact db_nil | refine dbc ?_ ?_) | ((with_reducible refine natle ?_); first | assumption | omega | (simp; omega)))
  refine LP_for B (fun i u => [(2, .ptr 0 0), (4, .d (.slice X)), (5, .d (.str u)), (6, .d (.int .i64 ((i : Int) + 1)))])
    (fun _ _ => [.box 44 [.d (.str []), .d (.int .i64 0)], .box 36 [.d (.slice (toksD R.1)), .d (.slice (toksD R.2.1)), .d (.int .i64 R.2.2.1), .d (.int .i64 R.2.2.2.1), .d (.int .i64 0)]])
    (fun i (u : List UInt8) => u = [10].intercalate (((x :: B).take (i + 1)).map bareM)) (bareM x) ?_ ?_ (by simp [List.intercalate]) ?_ ?_
  · (first | (simp [Env.shr, Env.get, PV.exp, PV.ids, PV.ids.idsL]; done) | simp [Env.shr, Env.get, PV.exp, PV.ids, PV.ids.idsL, *])
  · simp [shrink, Ent.exp, PV.exp, PV.ids, hne]
  · rintro i y u hy hi hu ih
    have hby := r_bare y (by have := hle y (by simp [List.mem_of_getElem? hy]); omega)
    have hr := hat i y hy
    have hul := hbd i
    rw [← hu] at hul
    have hyl := hle y (by simp [List.mem_of_getElem? hy])
    have hbl := bareM_len y
    have ih := ih (u ++ [10] ++ bareM y) (by
      rw [hu, List.append_assoc, ← inter_snoc]
      · congr 1
        have hyy : (x :: B)[i + 1]? = some y := by simpa using hy
        have htk : (x :: B).take (i + 1 + 1) = (x :: B).take (i + 1) ++ [y] := by rw [List.take_add_one (i := i + 1), hyy]; rfl
        rw [htk, List.map_append]
        rfl
      · simp)
    have hl1 : (u ++ [10]).length = u.length + 1 := by simp
    have h10 : ([10] : List UInt8).length = 1 := rfl
    clear hat hbd hu hle hR hb hL hX hx0 hx00 hAl2 hsum hne
    generalize bareM y = z at *
    repeat' (first | ((with_reducible refine wcm ?_); first | refine cF (hby) ?_) | refine dr ?_ | (refine ds ?_ ?_ <;> intro hb) | ((with_reducible refine dbm ?_); first | exact db_nil | refine dbc ?_ ?_) | ((with_reducible refine natle ?_); first | assumption | omega | (simp; omega)))
    refine LP_at ?_ ?_ ih
    · simp [Env.shr, Env.get, PV.exp, PV.ids, PV.ids.idsL]
    · first | rfl | simp [shrink, Ent.exp, PV.exp, PV.ids]
  · rintro u hu
    have hfu : [10].intercalate ((x :: B).map bareM) = u := by rw [hu, List.take_of_length_le (by simp)]
    rw [hfu]
    clear hat hbd hu hle hR hb hL hfu
    repeat' (first | refine dr ?_ | (refine ds ?_ ?_ <;> intro hb) | ((with_reducible refine dbm ?_); first | exact db_nil | refine dbc ?_ ?_) | ((with_reducible refine natle ?_); first | assumption | omega | (simp; omega)))
    all_goals (simp; done)
theorem r_Same (a b : List UInt8) (ha : a.length ≤ 1000000) (hb : b.length ≤ 1000000) : F Γz 22 [.d (.str a), .d (.str b)] (.agg [.bool (sameM a b).1, .int .i64 (sameM a b).2]) := by
  refine fn_of c22 rfl (by simp only [Env.of, List.zipIdx, List.map]; rfl) ?_
  have h1 := r_Tokens a (by omega)
  have h2 := r_Tokens b (by omega)
  obtain ⟨p1, _, _, _, p5, _⟩ := rTokM_eq a
  obtain ⟨q1, _, _, _, q5, _⟩ := rTokM_eq b
  have h3 := r_SameKinds (tokensM a).1 (tokensM b).1 (by have := tokensM_6000 a; omega) (by have := tokensM_6000 b; omega)
  simp only [lexedP] at h1 h2
  rw [p1, p5] at h1
  rw [q1, q5] at h2
  clear p1 p5 q1 q5
  generalize rTokM a = RA at *
  generalize rTokM b = RB at *
  by_cases he : (tokensM a).2.2.2 = 0
  case neg =>
    have : sameM a b = (false, (tokensM a).2.2.2) := by unfold sameM; rw [if_pos he]
    rw [this]
    clear this
    generalize tokensM a = A at *
    repeat' (first | ((with_reducible refine wcm ?_); first | refine cF (h1) ?_) | refine dr ?_ | (refine ds ?_ ?_ <;> intro hb) | ((with_reducible refine dbm ?_); first | exact db_nil | refine dbc ?_ ?_) | ((with_reducible refine natle ?_); first | assumption | omega | (simp; omega)))
    all_goals (simp; done)
  by_cases hf : (tokensM b).2.2.2 = 0
  case neg =>
    have : sameM a b = (false, (tokensM b).2.2.2) := by unfold sameM; rw [if_neg (by simp [he]), if_pos hf]
    rw [this]
    clear this
    generalize tokensM a = A at *
    generalize tokensM b = B at *
    repeat' (first | ((with_reducible refine wcm ?_); first | refine cF (h1) ?_ | refine cF (h2) ?_) | refine dr ?_ | (refine ds ?_ ?_ <;> intro hb) | ((with_reducible refine dbm ?_); first | exact db_nil | refine dbc ?_ ?_) | ((with_reducible refine natle ?_); first | assumption | omega | (simp; omega)))
    all_goals (simp; done)
  have : sameM a b = (sameK (tokensM a).1 (tokensM b).1, 0) := by unfold sameM; rw [if_neg (by simp [he]), if_neg (by simp [hf])]
  rw [this]
  clear this
  generalize tokensM a = A at *
  generalize tokensM b = B at *
  repeat' (first | ((with_reducible refine wcm ?_); first | refine cF (h1) ?_ | refine cF (h2) ?_ | refine cF (h3) ?_) | refine dr ?_ | (refine ds ?_ ?_ <;> intro hb) | ((with_reducible refine dbm ?_); first | exact db_nil | refine dbc ?_ ?_) | ((with_reducible refine natle ?_); first | assumption | omega | (simp; omega)))
  all_goals (simp; done)
/-- **LexStrips.** -/
theorem law_Strips (a b : List UInt8) : F Γz 5 [.d (.str a), .d (.str b)] (.d (.bool true)) := by
  refine fn_of c5 rfl (by simp only [Env.of, List.zipIdx, List.map]; rfl) ?_
  have hsan := f_sanity
  have ha := f_short a
  have hb := f_short b
  cases hsa : shortM a with
  | false =>
    rw [hsa] at ha
    repeat' (first | ((with_reducible refine wcm ?_); first | refine cF (ha) ?_ | refine cF (hsan) ?_) | refine dr ?_ | (refine ds ?_ ?_ <;> intro hb) | ((with_reducible refine dbm ?_); first | exact db_nil | refine dbc ?_ ?_) | ((with_reducible refine natle ?_); first | assumption | omega | (simp; omega)))
    all_goals (simp; done)
  | true =>
    rw [hsa] at ha
    cases hsb : shortM b with
    | false =>
      rw [hsb] at hb
      repeat' (first | ((with_reducible refine wcm ?_); first | refine cF (ha) ?_ | refine cF (hb) ?_ | refine cF (hsan) ?_) | refine dr ?_ | (refine ds ?_ ?_ <;> intro hb) | ((with_reducible refine dbm ?_); first | exact db_nil | refine dbc ?_ ?_) | ((with_reducible refine natle ?_); first | assumption | omega | (simp; omega)))
      all_goals (simp; done)
    | true =>
      rw [hsb] at hb
      have hal : a.length ≤ 20100 := by unfold shortM at hsa; have := of_decide_eq_true hsa; omega
      have hbl : b.length ≤ 20100 := by unfold shortM at hsb; have := of_decide_eq_true hsb; omega
      have h1 := f_Strip a (by omega)
      have h2 := r_Strip a (by omega)
      have h3 := f_Same a b (by omega) (by omega)
      have h4 := r_Same a b (by omega) (by omega)
      generalize stripM a = x at *
      generalize sameM a b = y at *
      clear hsa hsb
      repeat' (first | ((with_reducible refine wcm ?_); first | refine cF (ha) ?_ | refine cF (hb) ?_ | refine cF (h1) ?_ | refine cF (h2) ?_ | refine cF (h3) ?_ | refine cF (h4) ?_ | refine cF (hsan) ?_) | refine dr ?_ | (refine ds ?_ ?_ <;> intro hb) | ((with_reducible refine dbm ?_); first | exact db_nil | refine dbc ?_ ?_) | ((with_reducible refine natle ?_); first | assumption | omega | (simp; omega)))
      all_goals (simp; done)
end Go.Plane
end
section
set_option linter.unnecessarySimpa false
namespace Go.Plane
end Go.Plane
end
section
set_option linter.unnecessarySimpa false
set_option linter.unusedVariables false
namespace Go.Plane
open Go Go.RowKit Go.ChangeShapes Go.WideShapes

/-! ### From a row's reading to data -/
/-- All cells of a world. -/
def memOf (w : World) : Mem := fun b o => w.cell? ⟨b, o, none⟩

/-- Data of a type. -/
inductive Typed (P : Program) : TypeId → List D → Prop where
  | bool (t : TypeId) (b : Bool) (h : P.underlying t = some .bool) : Typed P t [.bool b]
  | int (t : TypeId) (k : IntKind) (n : Int) (h : P.underlying t = some (.int k)) (hw : (Lit.int k n).wf = true) : Typed P t [.int k n]
  | str (t : TypeId) (s : List UInt8) (h : P.underlying t = some .string) (hs : s.length ≤ maxLen) : Typed P t [.str s]
  | slice (t e : TypeId) (xs : List (List D)) (h : P.underlying t = some (.slice e)) (hl : xs.length ≤ maxLen) (hx : ∀ x ∈ xs, Typed P e x) : Typed P t [.slice xs]
  | struct (t : TypeId) (fs : Array Field) (dss : List (List D)) (h : P.underlying t = some (.struct fs)) (hl : dss.length = fs.size)
      (hx : ∀ (i : Nat) (f : Field) (ds : List D), fs[i]? = some f → dss[i]? = some ds → Typed P f.type ds) : Typed P t dss.flatten

/-- Fields, one behind the other, up to the end. -/
def tightF (P : Program) (TS : List TypeId) (n : Nat) : Nat → List Field → Bool
  | o, [] => o == n
  | o, f :: fs => f.offset == o && TS.contains f.type && tightF P TS n (o + P.cellsOf f.type) fs
/-- Types that are closed: each is a bool, an integer, a string, a slice or a struct of such. -/
def closedT (P : Program) (TS : List TypeId) : Bool := TS.all fun t => match P.underlying t with
  | some .bool | some (.int _) | some .string => P.cellsOf t == 1
  | some (.slice e) => P.cellsOf t == 1 && TS.contains e
  | some (.struct fs) => tightF P TS (P.cellsOf t) 0 fs.toList
  | _ => false

theorem cell_spot {w : World} {a : Addr} {v : Value} (h : w.cell? a = some v) : a.spot = none := by
  unfold World.cell? at h
  split at h
  · split at h
    · cases h
    · rename_i hn; simpa using hn
  · cases h
theorem add_plain {a : Addr} (h : a.spot = none) (k : Nat) : a.add k = ⟨a.block, a.off + k, none⟩ := by
  unfold Addr.add
  split
  · rename_i hk; subst hk; cases a; simp_all
  · rfl

theorem repds_append {M : Mem} {vs us : List Value} {cs ds : List D} (h : RepDs M vs cs) (k : RepDs M us ds) : RepDs M (vs ++ us) (cs ++ ds) := by
  refine ⟨by simp [h.1, k.1], fun j v d hv hd => ?_⟩
  by_cases hj : j < vs.length
  · rw [List.getElem?_append_left hj] at hv
    rw [List.getElem?_append_left (by rw [← h.1]; exact hj)] at hd
    exact h.2 j v d hv hd
  · rw [List.getElem?_append_right (by omega)] at hv
    rw [List.getElem?_append_right (by rw [← h.1]; omega), ← h.1] at hd
    exact k.2 _ v d hv hd

theorem struct_parts {P : Program} {TS : List TypeId} {n : Nat} {M : Mem} {cs : List Value} (hn : cs.length = n) : ∀ (fs : List Field) (o : Nat), tightF P TS n o fs = true → o ≤ n →
    (∀ f ∈ fs, TS.contains f.type = true → ∃ ds, Typed P f.type ds ∧ RepDs M ((cs.drop f.offset).take (P.cellsOf f.type)) ds ∧ ds.length = P.cellsOf f.type) →
    ∃ dss : List (List D), dss.length = fs.length ∧ (∀ (i : Nat) (f : Field) (ds : List D), fs[i]? = some f → dss[i]? = some ds → Typed P f.type ds) ∧ RepDs M (cs.drop o) dss.flatten
  | [], o, h, _, _ => ⟨[], rfl, fun i f ds hf => by simp at hf, by
      have : o = n := by simpa [tightF] using h
      subst this
      rw [← hn, List.drop_length]
      exact ⟨rfl, fun j v d hv => by simp at hv⟩⟩
  | f :: fs, o, h, ho, hall => by
    simp only [tightF, Bool.and_eq_true, beq_iff_eq] at h
    obtain ⟨⟨rfl, h2⟩, h3⟩ := h
    obtain ⟨ds, k1, k2, k3⟩ := hall f (by simp) h2
    have hlen : f.offset + P.cellsOf f.type ≤ n := by
      have := k2.1
      rw [k3, List.length_take, List.length_drop] at this
      omega
    obtain ⟨dss, e1, e2, e3⟩ := struct_parts hn fs (f.offset + P.cellsOf f.type) h3 hlen (fun g hg => hall g (by simp [hg]))
    refine ⟨ds :: dss, by simp [e1], fun i g es hg hes => ?_, ?_⟩
    · cases i with
      | zero => simp at hg hes; subst hg hes; exact k1
      | succ i => exact e2 i g es (by simpa using hg) (by simpa using hes)
    · rw [List.flatten_cons, ← List.take_append_drop (P.cellsOf f.type) (cs.drop f.offset), List.drop_drop]
      exact repds_append k2 e3

theorem repds_one {M : Mem} {v : Value} {d : D} (h : RepD M v d) : RepDs M [v] [d] := ⟨rfl, fun j u e hu he => by
  cases j with
  | zero => simp at hu he; subst hu he; exact h
  | succ j => simp at hu⟩

/-- What a row reads is data of its type. -/
theorem typed_of_trod {H : Type} {enc : TypeId × Value → H} {P : Program} {w : World} {sp : Nat → Bool} {held : Bool} {TS : List TypeId} (hc : closedT P TS = true) :
    ∀ (fuel : Nat) (t : TypeId) (cs : List Value) (x : DataW H × List MemPlace), TS.contains t = true → DataW.trod enc P w 0 sp held fuel t cs = some x →
      ∃ ds, Typed P t ds ∧ RepDs (memOf w) cs ds ∧ ds.length = P.cellsOf t := by
  intro fuel
  induction fuel using Nat.strongRecOn with
  | ind fuel ih =>
  intro t cs x ht h
  have hone := List.all_eq_true.1 hc t (by simpa using ht)
  split at hone
  · rename_i hu
    obtain ⟨b, rfl, _⟩ := DataW.trod_bool hu h
    exact ⟨[.bool b], .bool t b hu, repds_one (.bool b), (beq_iff_eq.1 hone).symm⟩
  · rename_i k hu
    obtain ⟨n, rfl, _, hw⟩ := DataW.trod_int hu h
    exact ⟨[.int k n], .int t k n hu hw, repds_one (.int k n), (beq_iff_eq.1 hone).symm⟩
  · rename_i hu
    obtain ⟨s, rfl, _, hs⟩ := DataW.trod_string hu h
    have hl : s.data.toList.length = s.size := by rw [Array.length_toList]; rfl
    refine ⟨[.str s.data.toList], .str t _ hu (by rw [hl]; exact hs), repds_one (.str s _ rfl ?_), (beq_iff_eq.1 hone).symm⟩
    rw [hl]
    have : maxLen = 9223372036854775807 := rfl
    omega
  · rename_i e hu
    simp only [Bool.and_eq_true, beq_iff_eq] at hone
    have hm : maxLen = 9223372036854775807 := rfl
    rcases DataW.trod_slice hu h with ⟨rfl, _⟩ | ⟨a, len, cap, elems, rest, n, rfl, rfl, _, _, hle, hcap, hlen, hel, _⟩
    · exact ⟨[.slice []], .slice t e [] hu (by simp) (by simp), repds_one (.slice none 0 0 0 [] (fun _ _ => Go.undef) rfl (by omega) (by decide) (by simp) (by simp) (by simp)), hone.1.symm⟩
    · have hx : ∀ i, i < len → ∃ ds : List D, Typed P e ds ∧ (∀ j, j < P.cellsOf e → ∃ v, w.cell? (a.add (i * P.cellsOf e + j)) = some v ∧ ∀ d, ds[j]? = some d → RepD (memOf w) v d) ∧ ds.length = P.cellsOf e := by
        intro i hi
        have := hel i hi
        rw [List.getElem?_eq_getElem (by omega)] at this
        obtain ⟨cs', h1, h2⟩ := Option.bind_eq_some_iff.1 this
        obtain ⟨_, k1, k2⟩ := World.cells?_some h1
        obtain ⟨ds, e1, e2, e3⟩ := ih n (by omega) e cs' _ (by simpa using hone.2) h2
        refine ⟨ds, e1, fun j hj => ?_, e3⟩
        have := k2 j hj
        rw [Deep.add_add, List.getElem?_eq_getElem (by omega)] at this
        exact ⟨_, this, fun d hd => e2.2 j _ d (List.getElem?_eq_getElem (by omega)) hd⟩
      obtain ⟨g, hg⟩ := Deep.choose_lt (α := List D) hx
      refine ⟨[.slice ((List.range len).map g)], .slice t e _ hu (by simp; omega) ?_, repds_one ?_, hone.1.symm⟩
      · intro x hx
        obtain ⟨i, hi, rfl⟩ := List.mem_map.1 hx
        exact (hg i (List.mem_range.1 hi)).1
      · have hat : ∀ (i : Nat) (x : List D) (j : Nat) (d : D), ((List.range len).map g)[i]? = some x → x[j]? = some d → i < len ∧ x = g i ∧ j < P.cellsOf e := by
          intro i x j d h1 h2
          rw [List.getElem?_map] at h1
          obtain ⟨i', h3, rfl⟩ := Option.map_eq_some_iff.1 h1
          obtain ⟨h4, h5⟩ := List.getElem?_eq_some_iff.1 h3
          simp at h4 h5
          subst h5
          have := (List.getElem?_eq_some_iff.1 h2).1
          rw [(hg i h4).2.2] at this
          exact ⟨h4, rfl, this⟩
        refine .slice (some a) len cap (P.cellsOf e) _ (fun i j => (w.cell? (a.add (i * P.cellsOf e + j))).getD Go.undef) (by simp) hle (by omega) ?_ ?_ ?_
        · intro x hx
          obtain ⟨i, hi, rfl⟩ := List.mem_map.1 hx
          exact (hg i (List.mem_range.1 hi)).2.2
        · intro i x j d h1 h2
          obtain ⟨k1, rfl, k2⟩ := hat i x j d h1 h2
          obtain ⟨v, k3, _⟩ := (hg i k1).2.1 j k2
          have h0 : a.spot = none := by
            obtain ⟨v0, e3, _⟩ := (hg 0 (by omega)).2.1 0 (by omega)
            rw [Nat.zero_mul, Nat.zero_add] at e3
            exact cell_spot e3
          refine ⟨a.block, a.off, by cases a; simp_all, ?_⟩
          simp only [memOf]
          rw [← add_plain h0, k3]
          rfl
        · intro i x j d h1 h2
          obtain ⟨k1, rfl, k2⟩ := hat i x j d h1 h2
          obtain ⟨v, k3, k4⟩ := (hg i k1).2.1 j k2
          simp only [k3, Option.getD_some]
          exact k4 d h2
  · rename_i fs hu
    obtain ⟨xs, n, rfl, _, hlen, hxl, hf⟩ := DataW.trod_struct hu h
    obtain ⟨dss, e1, e2, e3⟩ := struct_parts (M := memOf w) hlen fs.toList 0 hone (Nat.zero_le _) (fun f hf' hcon => by
      obtain ⟨i, hi, rfl⟩ := List.getElem_of_mem hf'
      have := hf i _ (by rw [← Array.getElem?_toList, List.getElem?_eq_getElem hi])
      have hxl : i < xs.length := by rw [hxl]; simpa using hi
      rw [List.getElem?_eq_getElem hxl] at this
      exact ih n (by omega) _ _ _ hcon this)
    refine ⟨dss.flatten, .struct t fs dss hu (by simpa using e1) (fun i f ds h1 h2 => e2 i f ds (by rw [Array.getElem?_toList]; exact h1) h2), by simpa using e3, ?_⟩
    have := e3.1
    simp only [List.drop_zero] at this
    omega
  · cases hone

/-- An argument's value in the plane. -/
def pvOf (P : Program) (t : TypeId) (ds : List D) : PV := match P.underlying t with
  | some (.struct _) => .agg ds
  | _ => .d (ds.headD (.bool false))
theorem rep_of_arg {H : Type} {enc : TypeId × Value → H} {P : Program} {w : World} {sp : Nat → Bool} {held : Bool} {TS : List TypeId} (hc : closedT P TS = true) {r : Reach} {b : Nat} {t : TypeId} {v : Value} {d : DataW H} {ps : List MemPlace}
    (ht : TS.contains t = true) (hv : Value.okWide P w r b t v) (h : DataW.Trod enc P w 0 sp held t v d ps) : ∃ ds, Typed P t ds ∧ Rep (memOf w) [] [] v (pvOf P t ds) := by
  obtain ⟨fuel, hf⟩ := h
  obtain ⟨ds, h1, h2, h3⟩ := typed_of_trod hc fuel t _ _ ht hf
  refine ⟨ds, h1, ?_⟩
  have hone := List.all_eq_true.1 hc t (by simpa using ht)
  unfold pvOf
  split at hone
  · rename_i hu
    rw [hu]
    cases h1 with
    | bool _ x h =>
      simp only [Value.okWide, hu, Cell.okWide] at hv
      cases v <;> simp_all [Cell.ok]
      exact .d _ _ (h2.2 0 _ _ rfl rfl)
    | int _ k n h => rw [hu] at h; cases h
    | str _ s h => rw [hu] at h; cases h
    | slice _ e xs h => rw [hu] at h; cases h
    | struct _ fs dss h => rw [hu] at h; cases h
  · rename_i k hu
    rw [hu]
    cases h1 with
    | int _ k' n h =>
      simp only [Value.okWide, hu, Cell.okWide] at hv
      cases v <;> simp_all [Cell.ok]
      exact .d _ _ (h2.2 0 _ _ rfl rfl)
    | bool _ x h => rw [hu] at h; cases h
    | str _ s h => rw [hu] at h; cases h
    | slice _ e xs h => rw [hu] at h; cases h
    | struct _ fs dss h => rw [hu] at h; cases h
  · rename_i hu
    rw [hu]
    cases h1 with
    | str _ s h =>
      obtain ⟨u, rfl⟩ := okWide_string hu hv
      exact .d _ _ (h2.2 0 _ _ rfl rfl)
    | bool _ x h => rw [hu] at h; cases h
    | int _ k n h => rw [hu] at h; cases h
    | slice _ e xs h => rw [hu] at h; cases h
    | struct _ fs dss h => rw [hu] at h; cases h
  · rename_i e hu
    rw [hu]
    cases h1 with
    | slice _ e xs h =>
      obtain ⟨a, len, cap, rfl⟩ := okWide_slice hu hv
      exact .d _ _ (h2.2 0 _ _ rfl rfl)
    | bool _ x h => rw [hu] at h; cases h
    | int _ k n h => rw [hu] at h; cases h
    | str _ s h => rw [hu] at h; cases h
    | struct _ fs dss h => rw [hu] at h; cases h
  · rename_i fs hu
    rw [hu]
    simp only [Value.okWide, hu] at hv
    obtain ⟨cs, rfl, _, _⟩ := hv
    have := Rep.agg (ρ := []) (σ := []) cs.toList ds h2
    simpa using this
  · cases hone

/-- All arguments. -/
inductive TypedAll (P : Program) : List TypeId → List PV → Prop where
  | nil : TypedAll P [] []
  | cons (t : TypeId) (ts : List TypeId) (ds : List D) (ps : List PV) (h : Typed P t ds) (r : TypedAll P ts ps) : TypedAll P (t :: ts) (pvOf P t ds :: ps)
theorem reps_of_args {H : Type} {enc : TypeId × Value → H} {P : Program} {w : World} {sp : Nat → Bool} {held : Bool} {TS : List TypeId} (hc : closedT P TS = true) {r : Reach} {b : Nat} :
    ∀ (ts : List TypeId) (vs : List Value) (ds : List (DataW H)) (ps : List MemPlace), (∀ t ∈ ts, TS.contains t = true) → (∀ (j : Nat) t v, ts[j]? = some t → vs[j]? = some v → Value.okWide P w r b t v) →
      DataW.TrodAll enc P w 0 sp held ts vs ds ps → ∃ az, TypedAll P ts az ∧ RepL (memOf w) vs az ∧ ds.length = ts.length
  | [], vs, ds, ps, _, _, h => by
    obtain ⟨rfl, rfl, _⟩ := trodAll_nil h
    exact ⟨[], .nil, ⟨rfl, fun j v p hv => by simp at hv⟩, rfl⟩
  | t :: ts, vs, ds, ps, ht, hv, h => by
    obtain ⟨v0, vs0, d0, ds0, p0, q0, rfl, rfl, _, h0, r0⟩ := trodAll_cons h
    obtain ⟨es, k1, k2⟩ := rep_of_arg hc (ht t (by simp)) (hv 0 t v0 rfl rfl) h0
    obtain ⟨az, e1, e2, e3⟩ := reps_of_args hc ts vs0 ds0 _ (fun u hu => ht u (by simp [hu])) (fun j u v h1 h2 => hv (j + 1) u v (by simpa using h1) (by simpa using h2)) r0
    refine ⟨_, .cons t ts es az k1 e1, ⟨by simp [e2.1], fun j v p h1 h2 => ?_⟩, by simp [e3]⟩
    cases j with
    | zero => simp at h1 h2; subst h1 h2; exact k2
    | succ j => exact e2.2 j v p (by simpa using h1) (by simpa using h2)
/-- Arguments read again. -/
theorem trodAll_below {H : Type} {enc : TypeId × Value → H} {P : Program} (hl : laidOutB P = true) {W W' : World} (hb : Below W.heap.size W W') :
    ∀ (ts : List TypeId) (vs : List Value) (ds : List (DataW H)) (ps : List MemPlace), (∀ t ∈ ts, P.readableRec t = true ∧ t < P.types.size) → (∀ x ∈ ps, x.block < W.heap.size) →
      DataW.TrodAll enc P W 0 (fun _ => true) true ts vs ds ps → DataW.TrodAll enc P W' 0 (fun b => decide (b < W.heap.size)) true ts vs ds ps
  | [], vs, ds, ps, _, _, h => by
    obtain ⟨rfl, rfl, rfl⟩ := trodAll_nil h
    rfl
  | t :: ts, vs, ds, ps, ht, hp, h => by
    obtain ⟨v0, vs0, d0, ds0, p0, q0, rfl, rfl, rfl, h0, r0⟩ := trodAll_cons h
    exact ⟨p0, q0, Below.trod hl (ht t (by simp)).1 (ht t (by simp)).2 h0 hb (fun x hx => hp x (by simp [hx])), trodAll_below hl hb ts vs0 ds0 q0 (fun u hu => ht u (by simp [hu])) (fun x hx => hp x (by simp [hx])) r0, rfl⟩
end Go.Plane
end
section
set_option linter.unnecessarySimpa false
set_option linter.unusedVariables false
namespace Go.Plane
open Go Go.RowKit Go.ChangeShapes Go.WideShapes

/-- The wrap: what the row lists, and the world's shape, both handed on. -/
theorem returns_of_change_laid {H : Type} {enc : TypeId × Value → H} {a : Assume} {C : Checked} {os : Os} {f : FuncId} {fn : Func} {s : ChangeSpec} {conds : List PathCond} {apart fresh handsOn again : Bool} {X : World → Array Value → Prop}
    (hX : ∀ (w w' : World) (args : Array Value), w.heap = w'.heap → X w args → X w' args)
    (own : ownKnob C.prog.godebug = none) (started : os.Started) (noInit : C.prog.inits.idxOf? f = none) (hfn : C.prog.funcs[f]? = some fn)
    (witness : ∃ (w : World) (tape : Tape) (i : Input), w.os = os ∧ (w.forCall tape i).Shaped C.prog ∧ i.vars = [] ∧ Input.okWide C.prog (w.forCall tape i) .any w.heap.size f i ∧
      ((s.pre enc C.prog fn conds apart (w.forCall tape i).memory i.args ∧ X (w.forCall tape i).memory i.args) ∧ sizedMet enc C.prog fn (OpenSpec.ofChange s) apart (w.forCall tape i).memory i.args) ∧ a.holds C.prog (lone (Frame.enter C.prog f i.args .normal) [] (w.forCall tape i)))
    (contract : ∀ (W : World) (base : Nat) (args : Array Value) (ds gs : List (DataW H)) (before : List MemPlace),
      (∀ (j : Nat) t v, fn.params[j]? = some t → args[j]? = some v → Value.okWide C.prog W .any base t v) →
      DataW.Whole enc C.prog fn.params.toList s.vars apart W args.toList ds gs before →
      conds.all (PathCond.test C.prog ⟨fn.params.toList, ds, s.plain.varTypes C.prog, gs⟩) = true →
      (DataW.weightsEach C.prog (fn.params.toList ++ s.plain.varTypes C.prog) (ds ++ gs)).all (· ≤ reachBytes) = true → X W args → W.ShapedOpen C.prog →
      Calls C.prog f args W fun e W' => ∃ v, e = .returned v ∧ s.post enc C.prog fn apart fresh handsOn again W args v W') :
    ReturnsInHanded a C os f .any (fun w args => (s.pre enc C.prog fn conds apart w args ∧ X w args) ∧ sizedMet enc C.prog fn (OpenSpec.ofChange s) apart w args) (s.post enc C.prog fn apart fresh handsOn again) := by
  refine returnsInHanded_of_calls own started noInit witness ?_
  intro w tape i _ hsh _ hok hpre hholds
  obtain ⟨_, _, _, fn', hfn', _, _, _, _, hval⟩ := hok
  have e : fn' = fn := Option.some.inj (hfn'.symm.trans hfn)
  subst e
  obtain ⟨⟨⟨ds, gs, before, hw, hc⟩, hx⟩, hz⟩ := hpre
  have hw' := DataW.Whole.of_heap (w' := w.forCall tape i) (by rfl) hw
  refine (contract (w.forCall tape i) w.heap.size i.args ds gs before hval hw' hc (hz.weights hw) (hX _ _ _ (by rfl) hx) hsh).mono fun e W' ⟨v, he, hp⟩ => ?_
  subst he
  exact ChangeSpec.post_blind hp

theorem keptBut_below {W W' : World} (hb : Below W.heap.size W W') (may : MemPlace → Prop) : W.keptBut W' may := by
  refine ⟨hb.os, hb.output, fun i hi => ?_⟩
  rw [hb.block i hi]
  cases h : W.heap[i]? with
  | none => trivial
  | some o => cases o <;> simp

/-- A world's cells az the plane's memory. -/
theorem rel_world {Γ : Cfg} {W : World} (hg : Γ.GL (memOf W)) : Rel Γ (memOf W) [] [] W :=
  ⟨hg, fun b o v h => h, rfl, fun i ty cs hi => by simp at hi, fun i sz xs hi => by simp at hi, fun i j g1 g2 b hij h1 => by simp at h1⟩

/-- ████ From a law in the plane to its row. -/
theorem row_of_law {H : Type} {enc : TypeId × Value → H} {Γ : Cfg} {C : Checked} {os : Os} {f : FuncId} {fn : Func} {s : ChangeSpec} {X : World → Prop} {TS : List TypeId} {tb : TypeId} {handsOn : Bool}
    (hP : Γ.P = C.prog) (hX : ∀ (w w' : World), w.heap = w'.heap → X w → X w') (own : ownKnob C.prog.godebug = none) (started : os.Started) (noInit : C.prog.inits.idxOf? f = none) (hfn : C.prog.funcs[f]? = some fn)
    (hTS : closedT C.prog TS = true) (hpar : (fn.params.toList.all fun t => TS.contains t && C.prog.readableRec t && decide (t < C.prog.types.size)) = true) (hout : laidOutB C.prog = true)
    (hres : fn.resultTypes = #[tb]) (htb : C.prog.underlying tb = some .bool) (hvars : s.vars = []) (hspec : ∀ ds : List (DataW H), ds.length = fn.params.toList.length → s.fn H (ds ++ []) = { results := [.lit (.bool true)], args := ds })
    (hΓ : ∀ W : World, W.ShapedOpen C.prog → X W → Γ.GL (memOf W) ∧ Γ.GW W)
    (hlaw : ∀ az, TypedAll C.prog fn.params.toList az → F Γ f az (.d (.bool true)))
    (witness : ∃ (w : World) (tape : Tape) (i : Input), w.os = os ∧ (w.forCall tape i).Shaped C.prog ∧ i.vars = [] ∧ Input.okWide C.prog (w.forCall tape i) .any w.heap.size f i ∧
      ((s.pre enc C.prog fn [] false (w.forCall tape i).memory i.args ∧ X (w.forCall tape i).memory) ∧ sizedMet enc C.prog fn (OpenSpec.ofChange s) false (w.forCall tape i).memory i.args) ∧ ({} : Assume).holds C.prog (lone (Frame.enter C.prog f i.args .normal) [] (w.forCall tape i))) :
    ReturnsInHanded {} C os f .any (fun w args => (s.pre enc C.prog fn [] false w args ∧ X w) ∧ sizedMet enc C.prog fn (OpenSpec.ofChange s) false w args) (s.post enc C.prog fn false true handsOn false) := by
  refine returns_of_change_laid (X := fun w _ => X w) (fun w w' _ hh h => hX w w' hh h) own started noInit hfn witness ?_
  intro W base args ds gs before hval hW _ _ hx hsh
  have hW' := hW
  obtain ⟨p, q, hA, hV, rfl, hfz, hnd⟩ := hW
  rw [hvars] at hV
  obtain ⟨rfl, rfl⟩ := trodVars_none hV
  have hmem : ∀ t ∈ fn.params.toList, TS.contains t = true ∧ C.prog.readableRec t = true ∧ t < C.prog.types.size := fun t ht => by
    have := List.all_eq_true.1 hpar t ht
    simp only [Bool.and_eq_true, decide_eq_true_eq] at this
    exact ⟨this.1.1, this.1.2, this.2⟩
  obtain ⟨az, k1, k2, k3⟩ := reps_of_args hTS fn.params.toList args.toList ds p (fun t ht => (hmem t ht).1) (fun j t v h1 h2 => hval j t v (by simpa using h1) (by simpa using h2)) hA
  obtain ⟨g1, g2⟩ := hΓ W hsh hx
  have hc := (hlaw az k1).2 (memOf W) [] W args.toList (rel_world g1) g2 k2.1 k2.2
  rw [hP] at hc
  refine hc.mono fun e W' ⟨M', ρ', σ', o, h1, h2, h3, h4, h5⟩ => ?_
  subst h4
  cases e with
  | returned v =>
    have hv : v = .bool true := h3.d_inv.bool_inv
    subst hv
    have hb : Below W.heap.size W W' := ⟨h1.ext.os, h1.ext.tape, h1.ext.output, h1.ext.size, fun k hk => h1.ext.keep k hk (by simp [blks])⟩
    refine ⟨_, rfl, ds, [], p ++ [], [], p, [], hW', ?_, ?_, ?_, keptBut_below hb _, fun h => by cases h⟩
    · rw [hspec ds k3, hres]
      exact trodAll_mk1 (shut_bool htb true)
    · rw [hspec ds k3]
      exact trodAll_below hout hb _ _ _ _ (fun t ht => (hmem t ht).2) (fun x hx => hW'.lt x (by simp [hx])) hA
    · rw [hspec ds k3, hvars]
      rfl
  | _ => exact h3.elim
/-! ### What data of a type is -/
section
variable {P : Program}
theorem typed_str {t : TypeId} {ds : List D} (hu : P.underlying t = some .string) (h : Typed P t ds) : ∃ s, ds = [.str s] ∧ s.length ≤ maxLen := by
  cases h with
  | str _ s _ hs => exact ⟨s, rfl, hs⟩
  | bool _ _ h => rw [hu] at h; cases h
  | int _ _ _ h => rw [hu] at h; cases h
  | slice _ _ _ h => rw [hu] at h; cases h
  | struct _ _ _ h => rw [hu] at h; cases h
theorem typed_int {t : TypeId} {ds : List D} {k : IntKind} (hu : P.underlying t = some (.int k)) (h : Typed P t ds) : ∃ n, ds = [.int k n] ∧ (Lit.int k n).wf = true := by
  cases h with
  | int _ k' n h hw => rw [hu] at h; cases h; exact ⟨n, rfl, hw⟩
  | bool _ _ h => rw [hu] at h; cases h
  | str _ _ h => rw [hu] at h; cases h
  | slice _ _ _ h => rw [hu] at h; cases h
  | struct _ _ _ h => rw [hu] at h; cases h
theorem typed_bool {t : TypeId} {ds : List D} (hu : P.underlying t = some .bool) (h : Typed P t ds) : ∃ b, ds = [.bool b] := by
  cases h with
  | bool _ b h => exact ⟨b, rfl⟩
  | int _ _ _ h => rw [hu] at h; cases h
  | str _ _ h => rw [hu] at h; cases h
  | slice _ _ _ h => rw [hu] at h; cases h
  | struct _ _ _ h => rw [hu] at h; cases h
theorem typed_slice {t e : TypeId} {ds : List D} (hu : P.underlying t = some (.slice e)) (h : Typed P t ds) : ∃ xs, ds = [.slice xs] ∧ xs.length ≤ maxLen ∧ ∀ x ∈ xs, Typed P e x := by
  cases h with
  | slice _ e' xs h hl hx => rw [hu] at h; cases h; exact ⟨xs, rfl, hl, hx⟩
  | bool _ _ h => rw [hu] at h; cases h
  | int _ _ _ h => rw [hu] at h; cases h
  | str _ _ h => rw [hu] at h; cases h
  | struct _ _ _ h => rw [hu] at h; cases h
theorem typed_struct {t : TypeId} {fs : Array Field} {ds : List D} (hu : P.underlying t = some (.struct fs)) (h : Typed P t ds) :
    ∃ dss : List (List D), ds = dss.flatten ∧ dss.length = fs.size ∧ ∀ (i : Nat) (f : Field) (es : List D), fs[i]? = some f → dss[i]? = some es → Typed P f.type es := by
  cases h with
  | struct _ fs' dss h hl hx => rw [hu] at h; cases h; exact ⟨dss, rfl, hl, hx⟩
  | bool _ _ h => rw [hu] at h; cases h
  | int _ _ _ h => rw [hu] at h; cases h
  | str _ _ h => rw [hu] at h; cases h
  | slice _ _ _ h => rw [hu] at h; cases h
theorem typed_rows {α : Type} {e : TypeId} {g : α → List D} : ∀ {xs : List (List D)}, (∀ x ∈ xs, ∃ a, x = g a) → ∃ l : List α, xs = l.map g
  | [], _ => ⟨[], rfl⟩
  | x :: xs, h => by
    obtain ⟨a, rfl⟩ := h x (by simp)
    obtain ⟨l, rfl⟩ := typed_rows (e := e) (xs := xs) (fun y hy => h y (by simp [hy]))
    exact ⟨a :: l, rfl⟩
theorem typedAll_cons {t : TypeId} {ts : List TypeId} {az : List PV} (h : TypedAll P (t :: ts) az) : ∃ ds ps, az = pvOf P t ds :: ps ∧ Typed P t ds ∧ TypedAll P ts ps := by
  cases h with
  | cons _ _ ds ps h r => exact ⟨ds, ps, rfl, h, r⟩
theorem typedAll_nil {az : List PV} (h : TypedAll P [] az) : az = [] := by cases h; rfl
end
end Go.Plane
end
section
set_option linter.unnecessarySimpa false
set_option linter.unusedVariables false
set_option maxRecDepth 100000
namespace Go.Plane
open Go Go.Proofs Go.Proofs.YtccejlonkoafgaaGreatDoor Go.ChangeShapes Go.WideShapes

abbrev seatLaid : List (String × DataW Unit) := [("unicode/utf8.acceptRanges", Rows.laid_unicode_utf8_acceptRanges), ("unicode.White_Space", Rows.laid_unicode_White_Space), ("strings.asciiSpace", Rows.laid_strings_asciiSpace), ("unicode/utf8.first", Rows.laid_unicode_utf8_first)]
abbrev seatTypes : List TypeId := [3, 5, 9, 28, 24, 66, 22, 49]
theorem seat_closed : closedT Tryz.prog seatTypes = true := by kernel_rfl
theorem seat_own : ownKnob Tryz.prog.godebug = none := by kernel_rfl
theorem seat_out : laidOutB Tryz.prog = true := by kernel_rfl
theorem seat_plain : (seatLaid.all fun x => x.2.handleName?.isNone) = true := by kernel_rfl
theorem seat_row0 : ((begin Tryz.prog (fun _ _ => 0) default).world.heap[0]?).bind (fun o => (Obj.row? o).map fun r => (r.1.size, r.2)) = some (256, 135) := by kernel_rfl
theorem seat_row1 : ((begin Tryz.prog (fun _ _ => 0) default).world.heap[1]?).bind Obj.row? = some (#[.int .i64 0], 3) := by kernel_rfl
theorem seat_globals : Tryz.prog.globals.size = 6 := by kernel_rfl
theorem seat_tab : (Rows.laid_strings_asciiSpace : DataW Unit) = Lib.tabData .u8 Lib.asciiSpaceTab := by rfl
theorem seat_Γ (W : World) (hs : W.ShapedOpen Tryz.prog) (hL : laidMetH Tryz.prog seatLaid W) : Γz.GL (memOf W) ∧ Γz.GW W := by
  rw [MakeChecks.laidMetH_plain _ _ _ seat_plain] at hL
  have hT : Lib.TabIs Tryz.prog W "strings.asciiSpace" .u8 Lib.asciiSpaceTab := by
    have h2 := hL.tail.tail
    rw [seat_tab] at h2
    exact Lib.tabIs_of_head gAscii (by kernel_rfl) (Tryz.underlying135) (Tryz.underlying5) (by kernel_rfl) (by kernel_rfl) h2
  refine ⟨⟨?_, fun o v hv => ?_⟩, ?_⟩
  · exact Proofs.cell_of_shapedOpen_int hs (by rw [seat_globals]; decide) seat_row1 rfl (by kernel_rfl) (by kernel_rfl) Tryz.underlying3
  · unfold asciiAt at hv
    obtain ⟨n, hn, rfl⟩ := Option.map_eq_some_iff.1 hv
    obtain ⟨ho, rfl⟩ := List.getElem?_eq_some_iff.1 hn
    have := hT.cell gAscii o ho
    simp only [memOf]
    rw [this]
    simp [List.getD, ho]
  · obtain ⟨r, h1, h2⟩ := Option.bind_eq_some_iff.1 seat_row0
    obtain ⟨⟨z, t⟩, h3, h4⟩ := Option.map_eq_some_iff.1 h2
    obtain ⟨cs, k1, k2, _⟩ := hs.1 0 z t (by rw [seat_globals]; decide) (by rw [h1]; exact h3)
    refine ⟨t, ?_⟩
    unfold World.shape?
    rw [k1]
    simp only [Prod.mk.injEq] at h4
    simp [k2, h4.1]
theorem seat_world (os : Os) (args : Array Value) : laidMetH Tryz.prog seatLaid ((World.laidAll Tryz.prog os seatLaid).forCall (fun _ _ => 0) ⟨#[], args, []⟩).memory := by
  rw [MakeChecks.laidMetH_plain _ _ _ seat_plain]
  exact laidMet_laidAll _ (by kernel_rfl) (by kernel_rfl)
end Go.Plane
end
section
set_option linter.unnecessarySimpa false
set_option linter.unusedVariables false
set_option maxRecDepth 100000
namespace Go.Plane
open Go Go.Proofs
theorem two_of {α : Type} {l : List α} (h : l.length = 2) : ∃ a b, l = [a, b] := by
  match l, h with
  | [a, b], _ => exact ⟨a, b, rfl⟩
theorem three_of {α : Type} {l : List α} (h : l.length = 3) : ∃ a b c, l = [a, b, c] := by
  match l, h with
  | [a, b, c], _ => exact ⟨a, b, c, rfl⟩
theorem typed_place {ds : List D} (h : Typed Tryz.prog 28 ds) : ∃ l c, ds = [.int .i64 l, .int .i64 c] := by
  obtain ⟨dss, rfl, hl, hx⟩ := typed_struct Tryz.underlying28 h
  obtain ⟨a, b, rfl⟩ := two_of hl
  obtain ⟨l, rfl, _⟩ := typed_int Tryz.underlying3 (hx 0 _ a rfl rfl)
  obtain ⟨c, rfl, _⟩ := typed_int Tryz.underlying3 (hx 1 _ b rfl rfl)
  exact ⟨l, c, rfl⟩
theorem typed_change {ds : List D} (h : Typed Tryz.prog 24 ds) : ∃ a b x, ds = [.int .i64 a, .int .i64 b, .str x] := by
  obtain ⟨dss, rfl, hl, hx⟩ := typed_struct Tryz.underlying24 h
  obtain ⟨a, b, c, rfl⟩ := three_of hl
  obtain ⟨l, rfl, _⟩ := typed_int Tryz.underlying3 (hx 0 _ a rfl rfl)
  obtain ⟨m, rfl, _⟩ := typed_int Tryz.underlying3 (hx 1 _ b rfl rfl)
  obtain ⟨x, rfl, _⟩ := typed_str Tryz.underlying9 (hx 2 _ c rfl rfl)
  exact ⟨l, m, x, rfl⟩
theorem typed_tok {ds : List D} (h : Typed Tryz.prog 49 ds) : ∃ t : Tok, ds = t.row := by
  obtain ⟨dss, rfl, hl, hx⟩ := typed_struct Tryz.underlying49 h
  obtain ⟨a, b, c, rfl⟩ := three_of hl
  obtain ⟨k, rfl, _⟩ := typed_int Tryz.underlying3 (hx 0 _ a rfl rfl)
  obtain ⟨s, rfl, _⟩ := typed_str Tryz.underlying9 (hx 1 _ b rfl rfl)
  obtain ⟨p, q, rfl⟩ := typed_place (hx 2 _ c rfl rfl)
  exact ⟨⟨k, s, p, q⟩, rfl⟩
theorem typed_strs {ds : List D} (h : Typed Tryz.prog 66 ds) : ∃ l : List (List UInt8), ds = [.slice (strsD l)] := by
  obtain ⟨xs, rfl, _, hx⟩ := typed_slice Tryz.underlying66 h
  obtain ⟨l, rfl⟩ := typed_rows (e := 9) (g := fun s : List UInt8 => [D.str s]) (xs := xs) (fun x hm => by
    obtain ⟨s, rfl, _⟩ := typed_str Tryz.underlying9 (hx x hm)
    exact ⟨s, rfl⟩)
  exact ⟨l, rfl⟩
theorem typed_toks {ds : List D} (h : Typed Tryz.prog 22 ds) : ∃ l : List Tok, ds = [.slice (toksD l)] := by
  obtain ⟨xs, rfl, _, hx⟩ := typed_slice Tryz.underlying22 h
  obtain ⟨l, rfl⟩ := typed_rows (e := 49) (g := Tok.row) (xs := xs) (fun x hm => typed_tok (hx x hm))
  exact ⟨l, rfl⟩
theorem typed_toksL {ds : List D} (h : Typed Tryz.prog 22 ds) : ∃ l : List Tok, ds = [.slice (toksD l)] ∧ (l.length : Int) ≤ 9223372036854775807 := by
  obtain ⟨xs, rfl, hl, hx⟩ := typed_slice Tryz.underlying22 h
  obtain ⟨l, rfl⟩ := typed_rows (e := 49) (g := Tok.row) (xs := xs) (fun x hm => typed_tok (hx x hm))
  have hm : maxLen = 9223372036854775807 := rfl
  have hln := toksD_length l
  unfold toksD at hln
  exact ⟨l, rfl, by omega⟩
end Go.Plane
end

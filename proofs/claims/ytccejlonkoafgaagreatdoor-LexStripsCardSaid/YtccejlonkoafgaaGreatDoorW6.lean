/- A part of the proof: the calculus over pure values, contracts of functions, and plain lemmas. -/
import Derived.Test.YtccejlonkoafgaaGreatDoorW5
section
set_option linter.unusedVariables false
set_option linter.unusedSimpArgs false
set_option maxRecDepth 100000
set_option maxHeartbeats 2000000
namespace Go.Plane
open Go Go.Proofs
theorem f_pieces (s : List UInt8) : F Γz 62 [.d (.str s)] (.fn 88 [] [.cptr [.str s] 0]) := by
  refine fn_of c62 rfl (by simp only [Env.of, List.zipIdx, List.map]; rfl) ?_
  repeat' (first | refine dr ?_ | (refine ds ?_ ?_ <;> intro hb) | ((with_reducible refine dbm ?_); first | exact db_nil | refine dbc ?_ ?_) | ((with_reducible refine natle ?_); first | assumption | omega | (simp; omega)))
  exact ⟨rfl, rfl⟩

/-! ### All lines -/
def tokOf (l : Int) (p : Pc) : Tok := ⟨p.k, p.s, l, 1 + p.a⟩
def errOf (ps : List Pc) : Option Pc := ps.find? fun p => p.e != 0
def keptOf (want : Int → Bool) (l : Int) (ps : List Pc) : List Tok := (ps.filter fun p => want p.k).map (tokOf l)
/-- The tokens that are wanted, or the first error: its place and what it is. -/
def readM (want : Int → Bool) : Int → List (List UInt8) → List Tok → List Tok × Int × Int × Int
  | _, [], acc => (acc, 0, 0, 0)
  | l, s :: ls, acc => match errOf (scanM s) with
    | some p => ([], l, 1 + p.a, p.e)
    | none => readM want (l + 1) ls (acc ++ keptOf want l (scanM s))
def readP (r : List Tok × Int × Int × Int) : PV := .tup [.d (.slice (toksD r.1)), .agg [.int .i64 r.2.1, .int .i64 r.2.2.1], .d (.int .i64 r.2.2.2)]

theorem pieceM_len (i : Int) (b : UInt8) (r : List UInt8) : (pieceM i b r).2 ≤ (b :: r).length := by
  unfold pieceM
  split
  · split <;> exact Nat.le_refl _
  · split
    · exact (List.takeWhile_sublist _).length_le
    · exact signM_le _
theorem pieceM_at (i : Int) (b : UInt8) (r : List UInt8) : i ≤ (pieceM i b r).1.a ∧ (pieceM i b r).1.a ≤ i + (b :: r).length := by
  have := badIdx_lt (b :: r)
  unfold pieceM
  split
  · split
    · simp only; omega
    · simp only; omega
  · split <;> simp only <;> omega
theorem scanF_len : ∀ (f i : Nat) (s : List UInt8), (scanF f i s).length ≤ f
  | 0, _, _ => by simp [scanF]
  | _ + 1, _, [] => by simp [scanF]
  | f + 1, i, b :: r => by
    unfold scanF
    split
    · exact Nat.le_succ_of_le (scanF_len f _ _)
    · simp only [List.length_cons]
      refine Nat.succ_le_succ ?_
      split
      · simp
      · exact scanF_len f _ _
theorem scanM_len (s : List UInt8) : (scanM s).length ≤ s.length := scanF_len _ _ _
theorem scanF_at : ∀ (f i : Nat) (s : List UInt8), ∀ p ∈ scanF f i s, (i : Int) ≤ p.a ∧ p.a ≤ (i : Int) + s.length
  | 0, _, _ => by simp [scanF]
  | _ + 1, _, [] => by simp [scanF]
  | f + 1, i, b :: r => by
    intro p hp
    unfold scanF at hp
    split at hp
    · have := scanF_at f (i + 1) r p hp
      simp only [List.length_cons]
      push_cast at *
      omega
    · rcases List.mem_cons.1 hp with rfl | hp
      · exact pieceM_at _ _ _
      · split at hp
        · cases hp
        · have h1 := scanF_at f _ _ p hp
          have h2 := pieceM_len i b r
          rw [List.length_drop] at h1
          push_cast at *
          omega
theorem scanM_at {s : List UInt8} {p : Pc} (h : p ∈ scanM s) : 0 ≤ p.a ∧ p.a ≤ s.length := by
  have := scanF_at _ _ _ p h
  omega
theorem keptOf_len (want : Int → Bool) (l : Int) (ps : List Pc) : (keptOf want l ps).length ≤ ps.length := by
  simp only [keptOf, List.length_map]
  exact List.length_filter_le _ _
theorem keptOf_snoc (want : Int → Bool) (l : Int) (ps : List Pc) (p : Pc) : keptOf want l (ps ++ [p]) = keptOf want l ps ++ if want p.k then [tokOf l p] else [] := by
  simp only [keptOf, List.filter_append, List.map_append, List.filter_cons, List.filter_nil]
  split <;> simp
theorem errOf_cons {d : List Pc} (hd : errOf d = none) (p : Pc) (ps : List Pc) (hp : p.e ≠ 0) : errOf (d ++ p :: ps) = some p := by
  simp only [errOf, List.find?_append] at *
  simp [hd, List.find?_cons, hp]
theorem errOf_snoc {d : List Pc} (hd : errOf d = none) (p : Pc) (hp : p.e = 0) : errOf (d ++ [p]) = none := by
  simp only [errOf, List.find?_append] at *
  simp [hd, List.find?_cons, hp]

theorem f_read {wf : FuncId} {want : Int → Bool} (hw : ∀ k : Int, F Γz wf [.d (.int .i64 k)] (.d (.bool (want k)))) (lines : List (List UInt8)) (first : Int) (h1 : 0 ≤ first ∧ first ≤ 1000000) (hs : (lines.map List.length).sum ≤ 100000000) (hl : lines.length ≤ 100000000) :
    F Γz 31 [.d (.slice (strsD lines)), .d (.int .i64 first), .fn wf [] []] (readP (readM want first lines [])) := by
  refine fn_of c31 rfl (by simp only [Env.of, List.zipIdx, List.map]; rfl) ?_
  have hln := strsD_length lines
  have hl2 : (strsD lines).length ≤ 4294967296 := by omega
  repeat' (first | refine dr ?_ | (refine ds ?_ ?_ <;> intro hb) | ((with_reducible refine dbm ?_); first | exact db_nil | refine dbc ?_ ?_) | ((with_reducible refine natle ?_); first | assumption | omega | (simp; omega)))
  refine LP_for lines (fun i (acc : List Tok) => [(4, .ptr 0 0), (5, .ptr 1 0), (6, .ptr 2 0), (7, .ptr 3 0), (8, .ptr 4 0), (9, .ptr 5 0), (13, .d (.slice (strsD lines))), (14, .d (.int .i64 lines.length)), (15, .d (.int .i64 i))])
    (fun i acc => [.box 3 [.d (.int .i64 first)], .box 74 [.fn wf [] []], .box 22 [.snil], .box 28 [.d (.int .i64 0), .d (.int .i64 0)], .box 29 [.d (.int .i64 0)], .box 22 [.lref 6 acc.length], .lst (49, 4) (toksD acc)])
    (fun i acc => readM want (first + i) (lines.drop i) acc = readM want first lines [] ∧ acc.length ≤ ((lines.take i).map List.length).sum) [] ?_ rfl ⟨by simp, by simp⟩ ?_ ?_
  · (first | (simp [Env.shr, Env.get, PV.exp, PV.ids, PV.ids.idsL]; done) | simp [Env.shr, Env.get, PV.exp, PV.ids, PV.ids.idsL, *])
  · rintro i x acc hx hi ⟨hI, hacc⟩ ih
    have hxs : (strsD lines)[i]? = some [.str x] := strsD_at hx
    have hdr : lines.drop i = x :: lines.drop (i + 1) := by
      rw [List.drop_eq_getElem_cons hi]
      congr 1
      have := List.getElem?_eq_getElem hi
      rw [hx] at this
      exact (Option.some.inj this).symm
    rw [hdr] at hI
    have hsum : ((lines.take (i + 1)).map List.length).sum = ((lines.take i).map List.length).sum + x.length := by
      rw [List.take_add_one, hx]
      simp
    have hle : ((lines.take (i + 1)).map List.length).sum ≤ (lines.map List.length).sum := by
      conv => rhs; rw [← List.take_append_drop (i + 1) lines]
      rw [List.map_append, List.sum_append]
      omega
    have hxl : x.length ≤ 4294967296 := by omega
    have hxsc := scanM_len x
    have hpc := f_pieces x
    simp only [readM] at hI
    repeat' (first | (refine orf (it_pieces x hxl) ?_) | ((with_reducible refine wcm ?_); first | refine cF (hpc) ?_) | refine dr ?_ | (refine ds ?_ ?_ <;> intro hb) | ((with_reducible refine dbm ?_); first | exact db_nil | refine dbc ?_ ?_) | ((with_reducible refine natle ?_); first | assumption | omega | (simp; omega)))
    refine rfK_ind (β := Pc) Pc.row (fun (ac : List Tok) => [.box 3 [.d (.int .i64 first)], .box 74 [.fn wf [] []], .box 22 [.snil], .box 28 [.d (.int .i64 0), .d (.int .i64 0)], .box 29 [.d (.int .i64 0)], .box 22 [.lref 6 ac.length], .lst (49, 4) (toksD ac), .box 3 [.d (.int .i64 i)]])
      (fun ps ac => ∃ done, scanM x = done ++ ps ∧ ac = acc ++ keptOf want (first + i) done ∧ errOf done = none) (scanM x) acc rfl ⟨[], by simp, by simp [keptOf], rfl⟩ ?_ ?_
    · rintro ac ⟨done, hd1, rfl, hd2⟩
      rw [List.append_nil] at hd1
      rw [← hd1] at hd2
      rw [hd2] at hI
      simp only at hI
      rw [hd1] at hI
      have hkl := keptOf_len want (first + i) done
      rw [hd1] at hxsc
      have hlt : ((i : Int)) < lines.length := by omega
      repeat' (first | refine dr ?_ | (refine ds ?_ ?_ <;> intro hb) | ((with_reducible refine dbm ?_); first | exact db_nil | refine dbc ?_ ?_) | ((with_reducible refine natle ?_); first | assumption | omega | (simp; omega)))
      refine LP_at ?_ rfl (ih (acc ++ keptOf want (first + i) done) ⟨?_, ?_⟩)
      · (first | (simp [Env.shr, Env.get, PV.exp, PV.ids, PV.ids.idsL]; done) | simp [Env.shr, Env.get, PV.exp, PV.ids, PV.ids.idsL, *])
      · rw [← hI, Int.natCast_add, Int.natCast_one, Int.add_assoc]
      · rw [List.length_append]; omega
    · rintro p ps ac ⟨done, hd1, hd3, hd2⟩ Nx hNx
      have hpm : p ∈ scanM x := by rw [hd1]; simp
      obtain ⟨hpa1, hpa2⟩ := scanM_at hpm
      have hac : ac.length ≤ 100000000 := by
        have := keptOf_len want (first + i) done
        rw [hd1] at hxsc
        simp only [List.length_append, List.length_cons] at hxsc
        rw [hd3, List.length_append]
        omega
      have hlt : ((i : Int)) < lines.length := by omega
      have hall := toksD_len ac
      have hlen := toksD_length ac
      clear hln hl2 hle hsum hdr hacc
      by_cases he : p.e = 0
      · have hres : ∀ t, t = (if want p.k then [tokOf (first + i) p] else []) → ∃ done, scanM x = done ++ ps ∧ ac ++ t = acc ++ keptOf want (first + i) done ∧ errOf done = none := fun t ht =>
          ⟨done ++ [p], by rw [hd1]; simp, by rw [keptOf_snoc, hd3, ht, List.append_assoc], errOf_snoc hd2 p he⟩
        clear hd1 hd3 hI ih
        have hwp := hw p.k
        cases hwk : want p.k with
        | true =>
          rw [hwk] at hwp hres
          repeat' (first | ((with_reducible refine wcm ?_); first | refine cF (hwp) ?_) | refine dr ?_ | (refine ds ?_ ?_ <;> intro hb) | ((with_reducible refine dbm ?_); first | exact db_nil | refine dbc ?_ ?_) | ((with_reducible refine natle ?_); first | assumption | omega | (simp; omega)))
          refine hNx (ac ++ [tokOf (first + i) p]) _ (hres _ rfl) ?_
          simp [shrink, Ent.exp, PV.exp, PV.ids, PV.ids.idsL, toksD, Tok.row, tokOf]
        | false =>
          rw [hwk] at hwp hres
          repeat' (first | ((with_reducible refine wcm ?_); first | refine cF (hwp) ?_) | refine dr ?_ | (refine ds ?_ ?_ <;> intro hb) | ((with_reducible refine dbm ?_); first | exact db_nil | refine dbc ?_ ?_) | ((with_reducible refine natle ?_); first | assumption | omega | (simp; omega)))
          refine hNx ac _ (by simpa using hres [] rfl) ?_
          simp [shrink, Ent.exp, PV.exp, PV.ids, PV.ids.idsL]
      · rw [hd1, errOf_cons hd2 p ps he] at hI
        simp only at hI
        rw [← hI]
        clear hd1 hd3 hI ih
        repeat' (first | (refine rk_ret ?_) | refine dr ?_ | (refine ds ?_ ?_ <;> intro hb) | ((with_reducible refine dbm ?_); first | exact db_nil | refine dbc ?_ ?_) | ((with_reducible refine natle ?_); first | assumption | omega | (simp; omega)))
        all_goals simp [readP, toksD]
  · rintro acc ⟨hI, hacc⟩
    rw [List.drop_length] at hI
    simp only [readM] at hI
    rw [← hI]
    repeat' (first | refine dr ?_ | (refine ds ?_ ?_ <;> intro hb) | ((with_reducible refine dbm ?_); first | exact db_nil | refine dbc ?_ ?_) | ((with_reducible refine natle ?_); first | assumption | omega | (simp; omega)))
    have ht : (toksD acc).take acc.length = toksD acc := List.take_of_length_le (by rw [toksD_length]; exact Nat.le_refl _)
    simp [readP, ht]
end Go.Plane
end
section
set_option linter.unusedVariables false
set_option linter.unusedSimpArgs false
set_option maxRecDepth 100000
set_option maxHeartbeats 1000000
namespace Go.Plane
open Go Go.Proofs
theorem splitL_sum (c : UInt8) : ∀ s : List UInt8, ((splitL c s).map List.length).sum ≤ s.length
  | [] => by simp [splitL]
  | b :: s => by
    have ih := splitL_sum c s
    simp only [splitL]
    split
    · simp; omega
    · split
      · rename_i h; rw [h] at ih; simp at ih ⊢; omega
      · simp
def isTok (k : Int) : Bool := k != 6
def isNote (k : Int) : Bool := k == 6
def tokensM (s : List UInt8) : List Tok × Int × Int × Int :=
  if 20000 < s.length then ([], 0, 0, 3)
  else if (readM isTok 1 (splitL 10 s) []).2.2.2 = 0 ∧ 6000 < (readM isTok 1 (splitL 10 s) []).1.length then ([], 0, 0, 3)
  else readM isTok 1 (splitL 10 s) []
theorem f_Tokens (s : List UInt8) (hs : s.length ≤ 4294967296) : F Γz 23 [.d (.str s)] (readP (tokensM s)) := by
  refine fn_of c23 rfl (by simp only [Env.of, List.zipIdx, List.map]; rfl) ?_
  by_cases hl : 20000 < s.length
  · have h : tokensM s = ([], 0, 0, 3) := by unfold tokensM; rw [if_pos hl]
    rw [h]
    repeat' (first | refine dr ?_ | (refine ds ?_ ?_ <;> intro hb) | ((with_reducible refine dbm ?_); first | exact db_nil | refine dbc ?_ ?_) | ((with_reducible refine natle ?_); first | assumption | omega | (simp; omega)))
    all_goals (simp [readP, toksD]; done)
  · have hsp := F_Split s 10 (by omega)
    have hsum := splitL_sum 10 s
    have hcnt : s.count 10 ≤ s.length := List.count_le_length
    have hlen := splitL_length 10 s
    have hrd := f_read (want := isTok) (fun k => f_token k) (splitL 10 s) 1 (by omega) (by omega) (by omega)
    have h : tokensM s = if (readM isTok 1 (splitL 10 s) []).2.2.2 = 0 ∧ 6000 < (readM isTok 1 (splitL 10 s) []).1.length then ([], 0, 0, 3) else readM isTok 1 (splitL 10 s) [] := by unfold tokensM; rw [if_neg hl]
    rw [h]
    generalize readM isTok 1 (splitL 10 s) [] = r at *
    have htl := toksD_length r.1
    clear h hsum hcnt hlen
    by_cases hc : r.2.2.2 = 0 ∧ 6000 < r.1.length
    · rw [if_pos hc]
      obtain ⟨hc1, hc2⟩ := hc
      repeat' (first | ((with_reducible refine wcm ?_); first | refine cF (hsp) ?_ | refine cF (hrd) ?_) | refine dr ?_ | (refine ds ?_ ?_ <;> intro hb) | ((with_reducible refine dbm ?_); first | exact db_nil | refine dbc ?_ ?_) | ((with_reducible refine natle ?_); first | assumption | omega | (simp; omega)))
      all_goals (simp [readP, toksD]; done)
    · rw [if_neg hc]
      repeat' (first | ((with_reducible refine wcm ?_); first | refine cF (hsp) ?_ | refine cF (hrd) ?_) | refine dr ?_ | (refine ds ?_ ?_ <;> intro hb) | ((with_reducible refine dbm ?_); first | exact db_nil | refine dbc ?_ ?_) | ((with_reducible refine natle ?_); first | assumption | omega | (simp; omega)))
      all_goals first | (exfalso; exact hc ⟨by omega, by omega⟩) | (simp [readP, toksD, *]; done)
/-- The comments, or the error. -/
def notesM (s : List UInt8) : List Tok × Int := if (tokensM s).2.2.2 ≠ 0 then ([], (tokensM s).2.2.2) else ((readM isNote 1 (splitL 10 s) []).1, 0)
theorem f_Comments (s : List UInt8) (hs : s.length ≤ 4294967296) : F Γz 47 [.d (.str s)] (.tup [.d (.slice (toksD (notesM s).1)), .d (.int .i64 (notesM s).2)]) := by
  refine fn_of c47 rfl (by simp only [Env.of, List.zipIdx, List.map]; rfl) ?_
  have htk := f_Tokens s hs
  by_cases he : (tokensM s).2.2.2 = 0
  · have hl : ¬20000 < s.length := by
      intro h
      unfold tokensM at he
      rw [if_pos h] at he
      simp at he
    have hsp := F_Split s 10 (by omega)
    have hsum := splitL_sum 10 s
    have hcnt : s.count 10 ≤ s.length := List.count_le_length
    have hlen := splitL_length 10 s
    have hrd := f_read (want := isNote) (fun k => f_note k) (splitL 10 s) 1 (by omega) (by omega) (by omega)
    have h : notesM s = ((readM isNote 1 (splitL 10 s) []).1, 0) := by unfold notesM; rw [if_neg (by simp [he])]
    rw [h]
    generalize tokensM s = t at *
    generalize readM isNote 1 (splitL 10 s) [] = r at *
    clear h hsum hcnt hlen
    repeat' (first | ((with_reducible refine wcm ?_); first | refine cF (htk) ?_ | refine cF (hsp) ?_ | refine cF (hrd) ?_) | refine dr ?_ | (refine ds ?_ ?_ <;> intro hb) | ((with_reducible refine dbm ?_); first | exact db_nil | refine dbc ?_ ?_) | ((with_reducible refine natle ?_); first | assumption | omega | (simp; omega)))
    all_goals (simp [toksD]; done)
  · have h : notesM s = ([], (tokensM s).2.2.2) := by unfold notesM; rw [if_pos he]
    rw [h]
    generalize tokensM s = t at *
    repeat' (first | ((with_reducible refine wcm ?_); first | refine cF (htk) ?_) | refine dr ?_ | (refine ds ?_ ?_ <;> intro hb) | ((with_reducible refine dbm ?_); first | exact db_nil | refine dbc ?_ ?_) | ((with_reducible refine natle ?_); first | assumption | omega | (simp; omega)))
    all_goals (simp [toksD]; done)
end Go.Plane
end
section
set_option linter.unusedVariables false
set_option linter.unusedSimpArgs false
set_option maxRecDepth 100000
set_option maxHeartbeats 2000000
namespace Go.Plane
open Go Go.Proofs
theorem sameTok_kt (a b : Tok) : sameTokM a b = decide (a.kt = b.kt) := by
  unfold sameTokM Tok.kt
  rw [Bool.eq_iff_iff]
  simp
theorem f_EqualFunc (a b : List Tok) (ha : a.length ≤ 4294967296) (hb : b.length ≤ 4294967296) : F Γz 51 [.d (.slice (toksD a)), .d (.slice (toksD b)), .fn 52 [] []] (.d (.bool (sameK a b))) := by
  refine fn_of c51 rfl (by simp only [Env.of, List.zipIdx, List.map]; rfl) ?_
  have l1 := toksD_length a
  have l2 := toksD_length b
  by_cases hl : a.length = b.length
  case neg =>
    have hm := sameK_len hl
    repeat' (first | refine dr ?_ | (refine ds ?_ ?_ <;> intro hb) | ((with_reducible refine dbm ?_); first | exact db_nil | refine dbc ?_ ?_) | ((with_reducible refine natle ?_); first | assumption | omega | (simp; omega)))
    rw [hm]
    exact ⟨rfl, rfl⟩
  have hl' : (a.length : Int) = b.length := by omega
  repeat' (first | refine dr ?_ | (refine ds ?_ ?_ <;> intro hb) | ((with_reducible refine dbm ?_); first | exact db_nil | refine dbc ?_ ?_) | ((with_reducible refine natle ?_); first | assumption | omega | (simp; omega)))
  refine LP_for a (fun i _ => [(1, .d (.slice (toksD b))), (2, .fn 52 [] []), (15, .d (.slice (toksD a))), (16, .d (.int .i64 a.length)), (17, .d (.int .i64 i))]) (fun _ _ => []) (fun i (_ : Unit) => (a.take i).map Tok.kt = (b.take i).map Tok.kt) () ?_ rfl (by simp) ?_ ?_
  · (first | (simp [Env.shr, Env.get, PV.exp, PV.ids, PV.ids.idsL]; done) | simp [Env.shr, Env.get, PV.exp, PV.ids, PV.ids.idsL, *])
  · rintro i x _ hi hlt hI ih
    have hy := List.getElem?_eq_getElem (show i < b.length by omega)
    generalize b[i] = y at hy
    have r1 := toksD_at hi
    have r2 := toksD_at hy
    clear hl
    have heq := f_equal x y
    cases he : sameTokM x y with
    | true =>
      rw [he] at heq
      have hkt : x.kt = y.kt := by rw [sameTok_kt] at he; exact of_decide_eq_true he
      repeat' (first | ((with_reducible refine wcm ?_); first | refine cF (heq) ?_) | refine dr ?_ | (refine ds ?_ ?_ <;> intro hb) | ((with_reducible refine dbm ?_); first | exact db_nil | refine dbc ?_ ?_) | ((with_reducible refine natle ?_); first | assumption | omega | (simp; omega)))
      refine LP_at ?_ rfl (ih () (map_take_succ Tok.kt hi hy hI hkt))
      (first | (simp [Env.shr, Env.get, PV.exp, PV.ids, PV.ids.idsL]; done) | simp [Env.shr, Env.get, PV.exp, PV.ids, PV.ids.idsL, *])
    | false =>
      rw [he] at heq
      have hkt : x.kt ≠ y.kt := by rw [sameTok_kt] at he; exact of_decide_eq_false he
      have : sameK a b = false := decide_eq_false (map_ne Tok.kt hi hy hkt)
      repeat' (first | ((with_reducible refine wcm ?_); first | refine cF (heq) ?_) | refine dr ?_ | (refine ds ?_ ?_ <;> intro hb) | ((with_reducible refine dbm ?_); first | exact db_nil | refine dbc ?_ ?_) | ((with_reducible refine natle ?_); first | assumption | omega | (simp; omega)))
      simp [this]
  · rintro _ hI
    have : sameK a b = true := decide_eq_true (list_ext_take Tok.kt hl (Nat.le_refl _) hI)
    repeat' (first | refine dr ?_ | (refine ds ?_ ?_ <;> intro hb) | ((with_reducible refine dbm ?_); first | exact db_nil | refine dbc ?_ ?_) | ((with_reducible refine natle ?_); first | assumption | omega | (simp; omega)))
    simp [this]

theorem f_joined (ls : List (List Tok)) (hl : ls.length ≤ 1000000) (ht : ls.flatten.length ≤ 1000000) : F Γz 34 [.d (.slice (ls.map fun l => [.slice (toksD l)]))] (.d (.slice (toksD ls.flatten))) := by
  refine fn_of c34 rfl (by simp only [Env.of, List.zipIdx, List.map]; rfl) ?_
  have l1 : (ls.map fun l => [D.slice (toksD l)]).length = ls.length := by simp
  repeat' (first | refine dr ?_ | (refine ds ?_ ?_ <;> intro hb) | ((with_reducible refine dbm ?_); first | exact db_nil | refine dbc ?_ ?_) | ((with_reducible refine natle ?_); first | assumption | omega | (simp; omega)))
  refine LP_for ls (fun i (acc : List Tok) => [(3, .lref 0 acc.length), (6, .d (.slice (ls.map fun l => [.slice (toksD l)]))), (7, .d (.int .i64 ls.length)), (8, .d (.int .i64 i))]) (fun i acc => [.lst (49, 4) (toksD acc)]) (fun i acc => acc = (ls.take i).flatten) [] ?_ rfl (by simp) ?_ ?_
  · (first | (simp [Env.shr, Env.get, PV.exp, PV.ids, PV.ids.idsL]; done) | simp [Env.shr, Env.get, PV.exp, PV.ids, PV.ids.idsL, *])
  · rintro i x acc hi hlt rfl ih
    have r1 : (ls.map fun l => [D.slice (toksD l)])[i]? = some [.slice (toksD x)] := by rw [List.getElem?_map, hi]; rfl
    have hn : (ls.take (i + 1)).flatten = (ls.take i).flatten ++ x := by rw [List.take_add_one, hi]; simp
    have hb : (ls.take (i + 1)).flatten.length ≤ ls.flatten.length := by
      conv => rhs; rw [← List.take_append_drop (i + 1) ls]
      rw [List.flatten_append, List.length_append]
      omega
    rw [hn, List.length_append] at hb
    have e1 := toksD_len x
    have e2 := toksD_len (ls.take i).flatten
    have e3 := toksD_length x
    have e4 := toksD_length (ls.take i).flatten
    generalize (ls.take i).flatten = acc at *
    repeat' (first | refine dr ?_ | (refine ds ?_ ?_ <;> intro hb) | ((with_reducible refine dbm ?_); first | exact db_nil | refine dbc ?_ ?_) | ((with_reducible refine natle ?_); first | assumption | omega | (simp; omega)))
    refine LP_at ?_ ?_ (ih (acc ++ x) hn.symm)
    · (first | (simp [Env.shr, Env.get, PV.exp, PV.ids, PV.ids.idsL]; done) | simp [Env.shr, Env.get, PV.exp, PV.ids, PV.ids.idsL, *])
    · simp [toksD_append, shrink, Ent.exp]
  · rintro acc rfl
    rw [List.take_length]
    have ht2 : (toksD ls.flatten).take ls.flatten.length = toksD ls.flatten := List.take_of_length_le (by rw [toksD_length]; exact Nat.le_refl _)
    repeat' (first | refine dr ?_ | (refine ds ?_ ?_ <;> intro hb) | ((with_reducible refine dbm ?_); first | exact db_nil | refine dbc ?_ ?_) | ((with_reducible refine natle ?_); first | assumption | omega | (simp; omega)))
    simp [ht2]

def rightM (t : Tok) : Bool := decide ((shapeM t.s).2 = 0 ∧ (shapeM t.s).1 = t.k ∧ t.k ≠ 6)
theorem f_right (t : Tok) (hs : t.s.length ≤ 4294967296) : F Γz 44 [.agg t.row] (.d (.bool (rightM t))) := by
  refine fn_of c44 rfl (by simp only [Env.of, List.zipIdx, List.map]; rfl) ?_
  have hsh := f_Shape t.s hs
  have h6 : (t.k != 6) = !decide (t.k = 6) := by rw [Bool.eq_iff_iff]; simp
  repeat' (first | ((with_reducible refine wcm ?_); first | refine cF (hsh) ?_) | refine dr ?_ | (refine ds ?_ ?_ <;> intro hb) | ((with_reducible refine dbm ?_); first | exact db_nil | refine dbc ?_ ?_) | ((with_reducible refine natle ?_); first | assumption | omega | (simp; omega)))
  all_goals first | (simp [rightM, *]; done) | (simp [rightM, h6, *]; done)
theorem f_write1 (t : Tok) (hs : t.s.length ≤ 4294967296) : F Γz 71 [.agg t.row] (.d (.bool (!rightM t))) := by
  refine fn_of c71 rfl (by simp only [Env.of, List.zipIdx, List.map]; rfl) ?_
  have hr := f_right t hs
  repeat' (first | ((with_reducible refine wcm ?_); first | refine cF (hr) ?_) | refine dr ?_ | (refine ds ?_ ?_ <;> intro hb) | ((with_reducible refine dbm ?_); first | exact db_nil | refine dbc ?_ ?_) | ((with_reducible refine natle ?_); first | assumption | omega | (simp; omega)))
  all_goals (simp [*]; done)
def needsM (a b : Tok) : Bool := decide ((readM isTok 1 [a.s ++ b.s] []).2.2.2 ≠ 0) || !sameK (readM isTok 1 [a.s ++ b.s] []).1 [a, b]
theorem f_needs (a b : Tok) (hs : a.s.length + b.s.length ≤ 100000000) (hr : (readM isTok 1 [a.s ++ b.s] []).1.length ≤ 4294967296) : F Γz 43 [.agg a.row, .agg b.row] (.d (.bool (needsM a b))) := by
  refine fn_of c43 rfl (by simp only [Env.of, List.zipIdx, List.map]; rfl) ?_
  have hrd := f_read (want := isTok) (fun k => f_token k) [a.s ++ b.s] 1 (by omega) (by simp; omega) (by simp)
  have hj := f_joined [[a], [b]] (by simp) (by simp)
  have heq := f_EqualFunc (readM isTok 1 [a.s ++ b.s] []).1 [a, b] hr (by simp)
  have hN : needsM a b = (decide ((readM isTok 1 [a.s ++ b.s] []).2.2.2 ≠ 0) || !sameK (readM isTok 1 [a.s ++ b.s] []).1 [a, b]) := rfl
  rw [hN]
  clear hN
  generalize readM isTok 1 [a.s ++ b.s] [] = r at *
  simp only [strsD, List.map, List.flatten, List.append_nil, List.cons_append, List.nil_append, toksD] at hrd hj heq
  by_cases he : r.2.2.2 = 0
  · repeat' (first | ((with_reducible refine wcm ?_); first | refine cF (hrd) ?_ | refine cF (hj) ?_ | refine cF (heq) ?_) | refine dr ?_ | (refine ds ?_ ?_ <;> intro hb) | ((with_reducible refine dbm ?_); first | exact db_nil | refine dbc ?_ ?_) | ((with_reducible refine natle ?_); first | assumption | omega | (simp; omega)))
    all_goals (simp [*]; done)
  · repeat' (first | ((with_reducible refine wcm ?_); first | refine cF (hrd) ?_ | refine cF (hj) ?_ | refine cF (heq) ?_) | refine dr ?_ | (refine ds ?_ ?_ <;> intro hb) | ((with_reducible refine dbm ?_); first | exact db_nil | refine dbc ?_ ?_) | ((with_reducible refine natle ?_); first | assumption | omega | (simp; omega)))
    all_goals (simp [*]; done)
end Go.Plane
end
section
set_option linter.unusedVariables false
set_option linter.unusedSimpArgs false
set_option maxRecDepth 100000
set_option maxHeartbeats 2000000
namespace Go.Plane
open Go Go.Proofs
def idxT (p : Tok → Bool) (l : List Tok) : Int := match l.findIdx? p with
  | some i => i
  | none => -1
theorem idxT_at {p : Tok → Bool} {l : List Tok} {i : Nat} {x : Tok} (hx : l[i]? = some x) (hp : p x = true) (hn : ∀ t ∈ l.take i, p t = false) : idxT p l = i := by
  have : l.findIdx? p = some i := by
    have hi := (List.getElem?_eq_some_iff.1 hx).1
    rw [List.findIdx?_eq_some_iff_getElem]
    refine ⟨hi, ?_, fun j hj => ?_⟩
    · rw [List.getElem?_eq_getElem hi] at hx; cases hx; exact hp
    · rw [hn _ (by rw [List.mem_take_iff_getElem]; exact ⟨j, by omega, rfl⟩)]; simp
  unfold idxT
  rw [this]
theorem idxT_none {p : Tok → Bool} {l : List Tok} (hn : ∀ t ∈ l, p t = false) : idxT p l = -1 := by
  have : l.findIdx? p = none := List.findIdx?_eq_none_iff.2 hn
  unfold idxT
  rw [this]
theorem idxT_any (p : Tok → Bool) (l : List Tok) : decide (0 ≤ idxT p l) = l.any p := by
  unfold idxT
  cases h : l.findIdx? p with
  | none =>
    have := List.findIdx?_eq_none_iff.1 h
    rw [show l.any p = false by rw [List.any_eq_false]; intro x hx; rw [this x hx]; simp]
    rfl
  | some i =>
    obtain ⟨h1, h2, _⟩ := List.findIdx?_eq_some_iff_getElem.1 h
    rw [show l.any p = true by rw [List.any_eq_true]; exact ⟨_, List.getElem_mem h1, h2⟩]
    simp
theorem f_IndexFuncT {wf : FuncId} {p : Tok → Bool} (l : List Tok) (hl : l.length ≤ 4294967296) (hp : ∀ t ∈ l, F Γz wf [.agg t.row] (.d (.bool (p t)))) :
    F Γz 102 [.d (.slice (toksD l)), .fn wf [] []] (.d (.int .i64 (idxT p l))) := by
  refine fn_of c102 rfl (by simp only [Env.of, List.zipIdx, List.map]; rfl) ?_
  have hln := toksD_length l
  repeat' (first | refine dr ?_ | (refine ds ?_ ?_ <;> intro hb) | ((with_reducible refine dbm ?_); first | exact db_nil | refine dbc ?_ ?_) | ((with_reducible refine natle ?_); first | assumption | omega | (simp; omega)))
  refine LP_for l (fun i _ => [(0, .d (.slice (toksD l))), (1, .fn wf [] []), (7, .d (.int .i64 l.length)), (8, .d (.int .i64 i))]) (fun _ _ => []) (fun i (_ : Unit) => ∀ t ∈ l.take i, p t = false) () ?_ rfl (by simp) ?_ ?_
  · (first | (simp [Env.shr, Env.get, PV.exp, PV.ids, PV.ids.idsL]; done) | simp [Env.shr, Env.get, PV.exp, PV.ids, PV.ids.idsL, *])
  · rintro i x _ hx hi hI ih
    have hr := toksD_at hx
    have hpx := hp x (List.mem_of_getElem? hx)
    cases hb : p x with
    | true =>
      rw [hb] at hpx
      have hv := idxT_at hx hb hI
      repeat' (first | ((with_reducible refine wcm ?_); first | refine cF (hpx) ?_) | refine dr ?_ | (refine ds ?_ ?_ <;> intro hb) | ((with_reducible refine dbm ?_); first | exact db_nil | refine dbc ?_ ?_) | ((with_reducible refine natle ?_); first | assumption | omega | (simp; omega)))
      simp [hv]
    | false =>
      rw [hb] at hpx
      repeat' (first | ((with_reducible refine wcm ?_); first | refine cF (hpx) ?_) | refine dr ?_ | (refine ds ?_ ?_ <;> intro hb) | ((with_reducible refine dbm ?_); first | exact db_nil | refine dbc ?_ ?_) | ((with_reducible refine natle ?_); first | assumption | omega | (simp; omega)))
      refine LP_at ?_ rfl (ih () fun t ht => ?_)
      · (first | (simp [Env.shr, Env.get, PV.exp, PV.ids, PV.ids.idsL]; done) | simp [Env.shr, Env.get, PV.exp, PV.ids, PV.ids.idsL, *])
      · rw [List.take_add_one, hx, List.mem_append] at ht
        rcases ht with ht | ht
        · exact hI t ht
        · simp at ht; subst ht; exact hb
  · rintro _ hI
    rw [List.take_length] at hI
    have hv := idxT_none hI
    repeat' (first | refine dr ?_ | (refine ds ?_ ?_ <;> intro hb) | ((with_reducible refine dbm ?_); first | exact db_nil | refine dbc ?_ ?_) | ((with_reducible refine natle ?_); first | assumption | omega | (simp; omega)))
    simp [hv]
theorem f_ContainsFuncT {wf : FuncId} {p : Tok → Bool} (l : List Tok) (hl : l.length ≤ 4294967296) (hp : ∀ t ∈ l, F Γz wf [.agg t.row] (.d (.bool (p t)))) :
    F Γz 70 [.d (.slice (toksD l)), .fn wf [] []] (.d (.bool (l.any p))) := by
  refine fn_of c70 rfl (by simp only [Env.of, List.zipIdx, List.map]; rfl) ?_
  have h := f_IndexFuncT l hl hp
  rw [← idxT_any p l]
  generalize idxT p l = n at *
  repeat' (first | ((with_reducible refine wcm ?_); first | refine cF (h) ?_) | refine dr ?_ | (refine ds ?_ ?_ <;> intro hb) | ((with_reducible refine dbm ?_); first | exact db_nil | refine dbc ?_ ?_) | ((with_reducible refine natle ?_); first | assumption | omega | (simp; omega)))
  all_goals (simp [*]; done)
theorem f_Write1 (a b : Tok) : F Γz 41 [.agg a.row, .agg b.row] (.d (.bool true)) := by
  refine fn_of c41 rfl (by simp only [Env.of, List.zipIdx, List.map]; rfl) ?_
  repeat' (first | refine dr ?_ | (refine ds ?_ ?_ <;> intro hb) | ((with_reducible refine dbm ?_); first | exact db_nil | refine dbc ?_ ?_) | ((with_reducible refine natle ?_); first | assumption | omega | (simp; omega)))
  exact ⟨rfl, rfl⟩

/-! ### Texts of tokens -/
def sepM (bl : Tok → Tok → Bool) : Option Tok → Tok → List UInt8
  | none, _ => []
  | some a, t => if bl a t then [32] else []
def joinTok (bl : Tok → Tok → Bool) : Option Tok → List Tok → List UInt8
  | _, [] => []
  | o, t :: l => sepM bl o t ++ t.s ++ joinTok bl (some t) l
def writeM (bl : Tok → Tok → Bool) (l : List Tok) : List UInt8 × Int :=
  if 6000 < l.length then ([], 3)
  else if l.any (fun t => !rightM t) then ([], 1)
  else if 20000 < (joinTok bl none l).length then ([], 3)
  else (joinTok bl none l, 0)
theorem joinTok_snoc (bl : Tok → Tok → Bool) (x : Tok) : ∀ (l : List Tok) (o : Option Tok), joinTok bl o (l ++ [x]) = joinTok bl o l ++ (sepM bl (l.getLast?.or o) x ++ x.s)
  | [], o => by simp [joinTok]
  | t :: l, o => by
    simp only [List.cons_append, joinTok, joinTok_snoc bl x l (some t)]
    rw [show (t :: l).getLast?.or o = l.getLast?.or (some t) by
      cases l with
      | nil => simp
      | cons y l =>
        simp only [List.getLast?_cons_cons]
        cases h : (y :: l).getLast? with
        | none => simp at h
        | some z => rfl]
    simp [List.append_assoc]
theorem joinTok_len (bl : Tok → Tok → Bool) : ∀ (l : List Tok) (o : Option Tok), (joinTok bl o l).length ≤ (l.map fun t => t.s.length + 1).sum
  | [], _ => by simp [joinTok]
  | t :: l, o => by
    have ih := joinTok_len bl l (some t)
    have : (sepM bl o t).length ≤ 1 := by
      unfold sepM
      split
      · simp
      · split <;> simp
    simp only [joinTok, List.length_append, List.map_cons, List.sum_cons]
    omega
end Go.Plane
end
section
set_option linter.unusedVariables false
set_option linter.unusedSimpArgs false
set_option maxRecDepth 100000
set_option maxHeartbeats 4000000
namespace Go.Plane
open Go Go.Proofs
theorem getLast_take {l : List Tok} {j : Nat} {y : Tok} (h : l[j]? = some y) : (l.take (j + 1)).getLast? = some y := by
  rw [List.take_add_one, h]
  simp
theorem bld_exp0 (l : List UInt8) (c : PV) (hc : c = .nilp ∨ c = .ptr 0 0) (r : Store) : shrink 2 (bld c l ++ r) = bld c l := by
  rcases hc with rfl | rfl <;> simp [bld, shrink, Ent.exp, PV.exp, PV.ids]
def bldAt : Nat → List UInt8 → Store
  | 0, a => bld .nilp a
  | _ + 1, a => bld (.ptr 0 0) a
theorem f_write {wf : FuncId} {bl : Tok → Tok → Bool} (l : List Tok) (hl : l.length ≤ 100000000) (hs : (l.map fun t => t.s.length + 1).sum ≤ 100000000) (hsl : ∀ t ∈ l, t.s.length ≤ 100000000)
    (hw : l.length ≤ 6000 → l.any (fun t => !rightM t) = false → ∀ a ∈ l, ∀ b ∈ l, F Γz wf [.agg a.row, .agg b.row] (.d (.bool (bl a b)))) :
    F Γz 40 [.d (.slice (toksD l)), .fn wf [] []] (.tup [.d (.str (writeM bl l).1), .d (.int .i64 (writeM bl l).2)]) := by
  refine fn_of c40 rfl (by simp only [Env.of, List.zipIdx, List.map]; rfl) ?_
  have hln := toksD_length l
  by_cases h6 : 6000 < l.length
  · have h : writeM bl l = ([], 3) := by unfold writeM; rw [if_pos h6]
    rw [h]
    repeat' (first | refine dr ?_ | (refine ds ?_ ?_ <;> intro hb) | ((with_reducible refine dbm ?_); first | exact db_nil | refine dbc ?_ ?_) | ((with_reducible refine natle ?_); first | assumption | omega | (simp; omega)))
    exact ⟨rfl, rfl⟩
  have hc := f_ContainsFuncT (p := fun t => !rightM t) l (by omega) (fun t ht => f_write1 t (by have := hsl t ht; omega))
  cases hany : l.any (fun t => !rightM t) with
  | true =>
    have h : writeM bl l = ([], 1) := by unfold writeM; rw [if_neg h6, if_pos hany]
    rw [h]
    rw [hany] at hc
    repeat' (first | ((with_reducible refine wcm ?_); first | refine cF (hc) ?_) | refine dr ?_ | (refine ds ?_ ?_ <;> intro hb) | ((with_reducible refine dbm ?_); first | exact db_nil | refine dbc ?_ ?_) | ((with_reducible refine natle ?_); first | assumption | omega | (simp; omega)))
    exact ⟨rfl, rfl⟩
  | false =>
    have hw := hw (by omega) hany
    have h : writeM bl l = if 20000 < (joinTok bl none l).length then ([], 3) else (joinTok bl none l, 0) := by unfold writeM; rw [if_neg h6, if_neg (by rw [hany]; simp)]
    rw [h]
    rw [hany] at hc
    have hjl := joinTok_len bl l none
    repeat' (first | ((with_reducible refine wcm ?_); first | refine cF (hc) ?_) | refine dr ?_ | (refine ds ?_ ?_ <;> intro hb) | ((with_reducible refine dbm ?_); first | exact db_nil | refine dbc ?_ ?_) | ((with_reducible refine natle ?_); first | assumption | omega | (simp; omega)))
    refine LP_for l (fun i _ => [(0, .d (.slice (toksD l))), (1, .fn wf [] []), (6, .ptr 0 0), (14, .d (.slice (toksD l))), (15, .d (.int .i64 l.length)), (16, .d (.int .i64 i))])
      bldAt (fun i a => a = joinTok bl none (l.take i)) [] ?_ rfl rfl ?_ ?_
    · (first | (simp [Env.shr, Env.get, PV.exp, PV.ids, PV.ids.idsL]; done) | simp [Env.shr, Env.get, PV.exp, PV.ids, PV.ids.idsL, *])
    · rintro i x a hx hi rfl ih
      have hrx := toksD_at hx
      have hbd : (joinTok bl none (l.take i ++ [x])).length ≤ 100000000 := by
        have h1 := joinTok_len bl (l.take i ++ [x]) none
        have h2 : ((l.take i ++ [x]).map fun t => t.s.length + 1).sum ≤ (l.map fun t => t.s.length + 1).sum := by
          conv => rhs; rw [← List.take_append_drop (i + 1) l]
          rw [List.take_add_one, hx]
          simp only [List.map_append, List.sum_append, Option.toList, List.map_cons, List.map_nil]
          omega
        omega
      have htk : l.take (i + 1) = l.take i ++ [x] := by rw [List.take_add_one, hx]; rfl
      rw [joinTok_snoc, List.length_append, List.length_append] at hbd
      cases i with
      | zero =>
        have hws := ft_WS0 [] x.s (by simp; omega)
        simp only [List.take_zero, joinTok]
        simp only [bldAt, bld, List.length_nil, bytesD, List.map_nil, List.nil_append] at hws ⊢
        repeat' (first | ((with_reducible refine wcm ?_); first | refine cT (hws) ?_) | refine dr ?_ | (refine ds ?_ ?_ <;> intro hb) | ((with_reducible refine dbm ?_); first | exact db_nil | refine dbc ?_ ?_) | ((with_reducible refine natle ?_); first | assumption | omega | (simp; omega)))
        refine LP_at ?_ ?_ (ih ([] ++ x.s) ?_)
        · (first | (simp [Env.shr, Env.get, PV.exp, PV.ids, PV.ids.idsL]; done) | simp [Env.shr, Env.get, PV.exp, PV.ids, PV.ids.idsL, *])
        · simp [bldAt, bld, shrink, Ent.exp, PV.exp, PV.ids, bytesD]
        · rw [htk, joinTok_snoc]; simp [sepM, joinTok]
      | succ j =>
        have hj : j < l.length := by omega
        have hy : l[j]? = some l[j] := List.getElem?_eq_getElem hj
        generalize l[j] = y at hy
        have hry0 := toksD_at hy
        have hry : (toksD l)[((((j + 1 : Nat) : Int) - 1).toNat)]? = some [.int .i64 y.k, .str y.s, .int .i64 y.l, .int .i64 y.c] := by rw [show (((j + 1 : Nat) : Int) - 1).toNat = j by omega]; exact hry0
        have hlast := getLast_take hy
        have hblk := hw y (List.mem_of_getElem? hy) x (List.mem_of_getElem? hx)
        rw [hlast] at hbd
        have htk2 : joinTok bl none (l.take (j + 1 + 1)) = joinTok bl none (l.take (j + 1)) ++ (sepM bl (some y) x ++ x.s) := by rw [htk, joinTok_snoc, hlast]; rfl
        simp only [Option.some_or, sepM] at hbd htk2
        generalize joinTok bl none (l.take (j + 1)) = u at *
        cases hbl : bl y x with
        | true =>
          rw [hbl] at hblk hbd htk2
          simp only [if_true, List.length_singleton] at hbd htk2
          have hwb := ft_WB1 u 32 (by omega)
          have hws := ft_WS1 (u ++ [32]) x.s (by simp; omega)
          simp only [bldAt, bld, bytesD_append, List.length_append, List.length_singleton] at hwb hws ⊢
          repeat' (first | ((with_reducible refine wcm ?_); first | refine cF (hblk) ?_ | refine cT (hwb) ?_ | refine cT (hws) ?_) | refine dr ?_ | (refine ds ?_ ?_ <;> intro hb) | ((with_reducible refine dbm ?_); first | exact db_nil | refine dbc ?_ ?_) | ((with_reducible refine natle ?_); first | assumption | omega | (simp; omega)))
          refine LP_at ?_ ?_ (ih (u ++ ([32] ++ x.s)) htk2.symm)
          · (first | (simp [Env.shr, Env.get, PV.exp, PV.ids, PV.ids.idsL]; done) | simp [Env.shr, Env.get, PV.exp, PV.ids, PV.ids.idsL, *])
          · simp [bldAt, bld, shrink, Ent.exp, PV.exp, PV.ids, bytesD] <;> omega
        | false =>
          rw [hbl] at hblk hbd htk2
          simp only [Bool.false_eq_true, if_false, List.nil_append] at hbd htk2
          have hws := ft_WS1 u x.s (by simp at hbd; omega)
          simp only [bldAt, bld, List.length_append, bytesD_append] at hws ⊢
          repeat' (first | ((with_reducible refine wcm ?_); first | refine cF (hblk) ?_ | refine cT (hws) ?_) | refine dr ?_ | (refine ds ?_ ?_ <;> intro hb) | ((with_reducible refine dbm ?_); first | exact db_nil | refine dbc ?_ ?_) | ((with_reducible refine natle ?_); first | assumption | omega | (simp; omega)))
          refine LP_at ?_ ?_ (ih (u ++ x.s) htk2.symm)
          · (first | (simp [Env.shr, Env.get, PV.exp, PV.ids, PV.ids.idsL]; done) | simp [Env.shr, Env.get, PV.exp, PV.ids, PV.ids.idsL, *])
          · simp [bldAt, bld, shrink, Ent.exp, PV.exp, PV.ids, bytesD]
    · rintro a rfl
      rw [List.take_length]
      have hne : (l = [] ∧ joinTok bl none l = []) ∨ ∃ n, l.length = n + 1 := by
        cases l with
        | nil => exact .inl ⟨rfl, rfl⟩
        | cons y m => exact .inr ⟨_, rfl⟩
      rcases hne with ⟨hnil, hj⟩ | ⟨n, hn⟩
      · have hlen := ft_Len .nilp [] (.inl rfl)
        have hst := ft_String .nilp []
        subst hnil
        simp only [bldAt, bld, joinTok, List.length_nil] at hlen hst ⊢
        repeat' (first | ((with_reducible refine wcm ?_); first | refine cT (hlen) ?_ | refine cT (hst) ?_) | refine dr ?_ | (refine ds ?_ ?_ <;> intro hb) | ((with_reducible refine dbm ?_); first | exact db_nil | refine dbc ?_ ?_) | ((with_reducible refine natle ?_); first | assumption | omega | (simp; omega)))
        exact ⟨rfl, rfl⟩
      · rw [show bldAt l.length (joinTok bl none l) = bld (.ptr 0 0) (joinTok bl none l) by rw [hn]; rfl]
        have hlen := ft_Len (.ptr 0 0) (joinTok bl none l) (.inr rfl)
        have hst := ft_String (.ptr 0 0) (joinTok bl none l)
        clear h
        generalize joinTok bl none l = u at *
        simp only [bld] at hlen hst ⊢
        by_cases hu : 20000 < u.length
        · rw [if_pos hu]
          repeat' (first | ((with_reducible refine wcm ?_); first | refine cT (hlen) ?_ | refine cT (hst) ?_) | refine dr ?_ | (refine ds ?_ ?_ <;> intro hb) | ((with_reducible refine dbm ?_); first | exact db_nil | refine dbc ?_ ?_) | ((with_reducible refine natle ?_); first | assumption | omega | (simp; omega)))
          all_goals (simp; done)
        · rw [if_neg hu]
          repeat' (first | ((with_reducible refine wcm ?_); first | refine cT (hlen) ?_ | refine cT (hst) ?_) | refine dr ?_ | (refine ds ?_ ?_ <;> intro hb) | ((with_reducible refine dbm ?_); first | exact db_nil | refine dbc ?_ ?_) | ((with_reducible refine natle ?_); first | assumption | omega | (simp; omega)))
          all_goals (simp; done)
end Go.Plane
end
section
set_option linter.unusedVariables false
set_option linter.unusedSimpArgs false
set_option maxRecDepth 100000
set_option maxHeartbeats 4000000
namespace Go.Plane
open Go Go.Proofs
attribute [local irreducible] wops wio wic wdt wdb onOut
theorem readM_len (want : Int → Bool) : ∀ (ls : List (List UInt8)) (l : Int) (acc : List Tok), (readM want l ls acc).1.length ≤ acc.length + (ls.map List.length).sum
  | [], _, acc => by simp [readM]
  | s :: ls, l, acc => by
    simp only [readM]
    split
    · simp
    · have h1 := readM_len want ls (l + 1) (acc ++ keptOf want l (scanM s))
      have h2 := keptOf_len want l (scanM s)
      have h3 := scanM_len s
      simp only [List.length_append, List.map_cons, List.sum_cons] at *
      omega
def textP (r : List UInt8 × Int) : PV := .tup [.d (.str r.1), .d (.int .i64 r.2)]
theorem f_Write (l : List Tok) (hl : l.length ≤ 100000000) (hs : (l.map fun t => t.s.length + 1).sum ≤ 100000000) (hsl : ∀ t ∈ l, t.s.length ≤ 100000000) : F Γz 13 [.d (.slice (toksD l))] (textP (writeM (fun _ _ => true) l)) := by
  refine fn_of c13 rfl (by simp only [Env.of, List.zipIdx, List.map]; rfl) ?_
  have h := f_write (bl := fun _ _ => true) l hl hs hsl (fun _ _ a _ b _ => f_Write1 a b)
  generalize writeM (fun _ _ => true) l = r at *
  repeat' (first | ((with_reducible refine wcm ?_); first | refine cF (h) ?_) | refine dr ?_ | (refine ds ?_ ?_ <;> intro hb) | ((with_reducible refine dbm ?_); first | exact db_nil | refine dbc ?_ ?_) | ((with_reducible refine natle ?_); first | assumption | omega | (simp; omega)))
  all_goals (simp [textP]; done)
theorem f_needs' (a b : Tok) (ha : a.s.length ≤ 50000000) (hb : b.s.length ≤ 50000000) : F Γz 43 [.agg a.row, .agg b.row] (.d (.bool (needsM a b))) :=
  f_needs a b (by omega) (by
    have := readM_len isTok [a.s ++ b.s] 1 []
    simp at this
    omega)
theorem f_Tight (l : List Tok) (hl : l.length ≤ 100000000) (hs : (l.map fun t => t.s.length + 1).sum ≤ 100000000) (hsl : ∀ t ∈ l, t.s.length ≤ 50000000) : F Γz 15 [.d (.slice (toksD l))] (textP (writeM needsM l)) := by
  refine fn_of c15 rfl (by simp only [Env.of, List.zipIdx, List.map]; rfl) ?_
  have h := f_write (bl := needsM) l hl hs (fun t ht => by have := hsl t ht; omega) (fun _ _ a ha b hb => f_needs' a b (hsl a ha) (hsl b hb))
  generalize writeM needsM l = r at *
  repeat' (first | ((with_reducible refine wcm ?_); first | refine cF (h) ?_) | refine dr ?_ | (refine ds ?_ ?_ <;> intro hb) | ((with_reducible refine dbm ?_); first | exact db_nil | refine dbc ?_ ?_) | ((with_reducible refine natle ?_); first | assumption | omega | (simp; omega)))
  all_goals (simp [textP]; done)
/-! ### Join -/
def startsM : Int → List (List UInt8) → List Int
  | _, [] => []
  | n, s :: l => n :: startsM (n + (1 + (s.count 10 : Int))) l
def afterM : Int → List (List UInt8) → Int
  | n, [] => n
  | n, s :: l => afterM (n + (1 + (s.count 10 : Int))) l
def withLF (l : List (List UInt8)) : List UInt8 := l.flatMap (· ++ [10])
def joinM (l : List (List UInt8)) : List UInt8 × List Int × Int :=
  if 24 < l.length then ([], [], 3)
  else if l.any (fun s => decide (20000 < s.length)) then ([], [], 3)
  else if 20000 < (withLF l).length then ([], [], 3)
  else (withLF l, startsM 1 l, 0)
theorem startsM_snoc (x : List UInt8) : ∀ (l : List (List UInt8)) (n : Int), startsM n (l ++ [x]) = startsM n l ++ [afterM n l]
  | [], n => rfl
  | s :: l, n => by simp only [List.cons_append, startsM, afterM, startsM_snoc x l]
theorem afterM_snoc (x : List UInt8) : ∀ (l : List (List UInt8)) (n : Int), afterM n (l ++ [x]) = afterM n l + (1 + (x.count 10 : Int))
  | [], n => rfl
  | s :: l, n => by simp only [List.cons_append, afterM, afterM_snoc x l]
theorem startsM_len : ∀ (l : List (List UInt8)) (n : Int), (startsM n l).length = l.length
  | [], _ => rfl
  | s :: l, n => by simp [startsM, startsM_len l]
def intsD (l : List Int) : List (List D) := l.map fun n => [.int .i64 n]
theorem intsD_length (l : List Int) : (intsD l).length = l.length := by simp [intsD]
theorem intsD_len (l : List Int) : ∀ y ∈ intsD l, y.length = 1 := by simp [intsD]
theorem f_Join (l : List (List UInt8)) (hl : l.length ≤ 4294967296) (hs : ∀ s ∈ l, s.length ≤ 4294967296) : F Γz 26 [.d (.slice (strsD l))] (.tup [.d (.str (joinM l).1), .d (.slice (intsD (joinM l).2.1)), .d (.int .i64 (joinM l).2.2)]) := by
  refine fn_of c26 rfl (by simp only [Env.of, List.zipIdx, List.map]; rfl) ?_
  have hln := strsD_length l
  by_cases h24 : 24 < l.length
  · have h : joinM l = ([], [], 3) := by unfold joinM; rw [if_pos h24]
    rw [h]
    repeat' (first | refine dr ?_ | (refine ds ?_ ?_ <;> intro hb) | ((with_reducible refine dbm ?_); first | exact db_nil | refine dbc ?_ ?_) | ((with_reducible refine natle ?_); first | assumption | omega | (simp; omega)))
    exact ⟨rfl, rfl⟩
  repeat' (first | refine dr ?_ | (refine ds ?_ ?_ <;> intro hb) | ((with_reducible refine dbm ?_); first | exact db_nil | refine dbc ?_ ?_) | ((with_reducible refine natle ?_); first | assumption | omega | (simp; omega)))
  generalize hQ : Ex.inBlock 0 _ = Q0
  refine LP_for l (fun i (a : List UInt8 × List Int × Int) => [(5, .ptr 0 0), (6, .lref 2 a.2.1.length), (7, .d (.int .i64 a.2.2)), (13, .d (.slice (strsD l))), (14, .d (.int .i64 l.length)), (15, .d (.int .i64 i))])
    (fun i a => bldAt i a.1 ++ [.lst (3, 1) (intsD a.2.1)])
    (fun i a => a.1 = withLF (l.take i) ∧ a.2.1 = startsM 1 (l.take i) ∧ a.2.2 = afterM 1 (l.take i) ∧ a.1.length ≤ i * 20001 ∧ a.2.1.length = i ∧ 0 ≤ a.2.2 ∧ a.2.2 ≤ 1 + i * 20001 ∧ ∀ s ∈ l.take i, s.length ≤ 20000) ([], [], 1) ?_ rfl ⟨rfl, rfl, rfl, by simp, rfl, by decide, by decide, by simp⟩ ?_ ?_
  · (first | (simp [Env.shr, Env.get, PV.exp, PV.ids, PV.ids.idsL]; done) | simp [Env.shr, Env.get, PV.exp, PV.ids, PV.ids.idsL, *])
  · rintro i x ⟨u, ns, n⟩ hx hi ⟨h1, h2, h3, h4, h5, h6, h7, h8⟩ ih
    simp only at h1 h2 h3 h4 h5 h6 h7
    have hrx := strsD_at hx
    have hxs := hs x (List.mem_of_getElem? hx)
    have htk : l.take (i + 1) = l.take i ++ [x] := by rw [List.take_add_one, hx]; rfl
    have hi24 : i ≤ 24 := by omega
    by_cases hbig : 20000 < x.length
    · have hany : l.any (fun s => decide (20000 < s.length)) = true := by
        rw [List.any_eq_true]; exact ⟨x, List.mem_of_getElem? hx, by simp [hbig]⟩
      have h : joinM l = ([], [], 3) := by unfold joinM; rw [if_neg h24, if_pos hany]
      subst hQ
      rw [h]
      clear h1 h2 h3 h8 ih
      cases i with
      | zero =>
        simp only [bldAt, bld, List.cons_append, List.nil_append]
        repeat' (first | refine dr ?_ | (refine ds ?_ ?_ <;> intro hb) | ((with_reducible refine dbm ?_); first | exact db_nil | refine dbc ?_ ?_) | ((with_reducible refine natle ?_); first | assumption | omega | (simp; omega)))
        all_goals (simp [intsD]; done)
      | succ i =>
        simp only [bldAt, bld, List.cons_append, List.nil_append]
        repeat' (first | refine dr ?_ | (refine ds ?_ ?_ <;> intro hb) | ((with_reducible refine dbm ?_); first | exact db_nil | refine dbc ?_ ?_) | ((with_reducible refine natle ?_); first | assumption | omega | (simp; omega)))
        all_goals (simp [intsD]; done)
    · have hcn : x.count 10 ≤ x.length := List.count_le_length
      have hct := F_Count x 10
      have hil : (intsD ns).length = i := by rw [intsD_length]; exact h5
      have hll := intsD_len ns
      have hnew : (u ++ (x ++ [10])) = withLF (l.take (i + 1)) ∧ ns ++ [n] = startsM 1 (l.take (i + 1)) ∧ n + (1 + (x.count 10 : Int)) = afterM 1 (l.take (i + 1)) := by
        rw [htk, startsM_snoc, afterM_snoc, ← h2, ← h3, h1]
        refine ⟨?_, rfl, rfl⟩
        simp [withLF]
      have hI : ∀ s ∈ l.take (i + 1), s.length ≤ 20000 := by
        intro s hs'
        rw [htk, List.mem_append] at hs'
        rcases hs' with hs' | hs'
        · exact h8 s hs'
        · simp at hs'; subst hs'; omega
      have ih := ih (u ++ (x ++ [10]), ns ++ [n], n + (1 + (x.count 10 : Int))) ⟨hnew.1, hnew.2.1, hnew.2.2, by simp; omega, by simp; omega, by simp only; omega, by simp only; push_cast; omega, hI⟩
      have h10 : ([10] : List UInt8).length = 1 := rfl
      have hbA : (x.count 10 : Int) ≤ 20000 := by omega
      have hbN : n ≤ 1000000 := by omega
      have hbx : (x.length : Int) ≤ 20000 := by omega
      have hbu : (u.length : Int) ≤ 1000000 := by omega
      clear h1 h2 h3 h8 hnew hI htk hs hbig hxs hcn h7 hl h24
      cases i with
      | zero =>
        have hu : u = [] := by cases u with | nil => rfl | cons _ _ => simp at h4
        subst hu
        clear h4 hbu hi24
        have hws := ft_WS0 [] (x ++ [10]) (by simp; omega)
        simp only [bldAt, bld, List.cons_append, List.nil_append, List.length_nil, bytesD, List.map_nil] at hws ⊢
        repeat' (first | ((with_reducible refine wcm ?_); first | refine cF (hct) ?_ | refine cT (hws) ?_) | refine dr ?_ | (refine ds ?_ ?_ <;> intro hb) | ((with_reducible refine dbm ?_); first | exact db_nil | refine dbc ?_ ?_) | ((with_reducible refine natle ?_); first | assumption | omega | (simp; omega)))
        refine LP_at ?_ ?_ ih
        · (first | (simp [Env.shr, Env.get, PV.exp, PV.ids, PV.ids.idsL]; done) | simp [Env.shr, Env.get, PV.exp, PV.ids, PV.ids.idsL, *])
        · simp [bldAt, bld, shrink, Ent.exp, PV.exp, PV.ids, bytesD, intsD]
      | succ i =>
        have hws := ft_WS1 u (x ++ [10]) (by simp; omega)
        clear h4
        simp only [bldAt, bld, List.cons_append, List.nil_append, bytesD_append] at hws ⊢
        repeat' (first | ((with_reducible refine wcm ?_); first | refine cF (hct) ?_ | refine cT (hws) ?_) | refine dr ?_ | (refine ds ?_ ?_ <;> intro hb) | ((with_reducible refine dbm ?_); first | exact db_nil | refine dbc ?_ ?_) | ((with_reducible refine natle ?_); first | assumption | omega | (simp; omega)))
        refine LP_at ?_ ?_ ih
        · (first | (simp [Env.shr, Env.get, PV.exp, PV.ids, PV.ids.idsL]; done) | simp [Env.shr, Env.get, PV.exp, PV.ids, PV.ids.idsL, *])
        · simp [bldAt, bld, shrink, Ent.exp, PV.exp, PV.ids, bytesD, intsD]
  · rintro ⟨u, ns, n⟩ ⟨h1, h2, h3, h4, h5, h6, h7, h8⟩
    simp only at h1 h2 h3 h4 h5 h6 h7
    rw [List.take_length] at h1 h2 h3 h8
    have hany : l.any (fun s => decide (20000 < s.length)) = false := by
      rw [List.any_eq_false]; intro s hs'; have := h8 s hs'; simp; omega
    have h : joinM l = if 20000 < u.length then ([], [], 3) else (u, ns, 0) := by unfold joinM; rw [if_neg h24, if_neg (by rw [hany]; simp), ← h1, ← h2]
    subst hQ
    rw [h]
    clear h h1 h2 h3 h8
    have hil : (intsD ns).length = ns.length := intsD_length ns
    have htk2 : (intsD ns).take ns.length = intsD ns := List.take_of_length_le (by rw [hil]; exact Nat.le_refl _)
    clear hil h5
    cases hll : l.length with
    | zero =>
      rw [hll] at h4
      have hu : u = [] := by cases u with | nil => rfl | cons _ _ => simp at h4
      subst hu
      have hlen := ft_Len .nilp [] (.inl rfl)
      have hst := ft_String .nilp []
      simp only [bldAt, bld, List.length_nil, List.cons_append, List.nil_append] at hlen hst ⊢
      repeat' (first | ((with_reducible refine wcm ?_); first | refine cT (hlen) ?_ | refine cT (hst) ?_) | refine dr ?_ | (refine ds ?_ ?_ <;> intro hb) | ((with_reducible refine dbm ?_); first | exact db_nil | refine dbc ?_ ?_) | ((with_reducible refine natle ?_); first | assumption | omega | (simp; omega)))
      all_goals (simp [htk2]; done)
    | succ n0 =>
      have hlen := ft_Len (.ptr 0 0) u (.inr rfl)
      have hst := ft_String (.ptr 0 0) u
      simp only [bldAt, bld, List.cons_append, List.nil_append] at hlen hst ⊢
      by_cases hu : 20000 < u.length
      · rw [if_pos hu]
        repeat' (first | ((with_reducible refine wcm ?_); first | refine cT (hlen) ?_ | refine cT (hst) ?_) | refine dr ?_ | (refine ds ?_ ?_ <;> intro hb) | ((with_reducible refine dbm ?_); first | exact db_nil | refine dbc ?_ ?_) | ((with_reducible refine natle ?_); first | assumption | omega | (simp; omega)))
        all_goals (simp [intsD]; done)
      · rw [if_neg hu]
        repeat' (first | ((with_reducible refine wcm ?_); first | refine cT (hlen) ?_ | refine cT (hst) ?_) | refine dr ?_ | (refine ds ?_ ?_ <;> intro hb) | ((with_reducible refine dbm ?_); first | exact db_nil | refine dbc ?_ ?_) | ((with_reducible refine natle ?_); first | assumption | omega | (simp; omega)))
        all_goals (simp [htk2]; done)
end Go.Plane
end

/- A part of the proof: the calculus over pure values, contracts of functions, and plain lemmas. -/
import Derived.Test.YtccejlonkoafgaaGreatDoorW3
section
set_option linter.unusedVariables false
set_option linter.unusedSimpArgs false
set_option maxRecDepth 100000
set_option maxHeartbeats 1000000
namespace Go.Plane
open Go Go.Proofs
def valM : Int → List UInt8 → Int × Int
  | n, [] => (n, 0)
  | n, b :: l => if 1099511627776 < 10 * n + ((b.toNat : Int) - 48) then (0, 3) else valM (10 * n + ((b.toNat : Int) - 48)) l
def numberM (s : List UInt8) : Int × Int :=
  if s.all isDigit = false ∨ (1 < s.length ∧ s[0]? = some 48) then (0, 2) else valM 0 s
theorem digit_bounds {b : UInt8} (h : isDigit b = true) : 48 ≤ (b.toNat : Int) ∧ (b.toNat : Int) ≤ 57 := by
  rw [isDigit_int] at h; simpa using h
theorem byte48 {c : UInt8} : (c.toNat : Int) = 48 ↔ c = 48 := by
  have := byte_eq c 48 (by decide)
  rw [Bool.eq_iff_iff, beq_iff_eq, beq_iff_eq] at this
  exact this
theorem f_number (s : List UInt8) (hs : s.length ≤ 4294967296) : F Γz 104 [.d (.str s)] (pairI (numberM s)) := by
  refine fn_of c104 rfl (by simp only [Env.of, List.zipIdx, List.map]; rfl) ?_
  have ho := f_only _ _ f_digit s hs
  cases hd : s.all isDigit with
  | false =>
    rw [hd] at ho
    repeat' (first | ((with_reducible refine wcm ?_); first | refine cF (ho) ?_) | refine dr ?_ | (refine ds ?_ ?_ <;> intro hb) | ((with_reducible refine dbm ?_); first | exact db_nil | refine dbc ?_ ?_) | ((with_reducible refine natle ?_); first | assumption | omega | (simp; omega)))
    simp [numberM, hd, pairI]
  | true =>
    rw [hd] at ho
    have hall := List.all_eq_true.1 hd
    have h0 : ∀ c, s[0]? = some c → (¬(1 < s.length ∧ s[0]? = some 48) ↔ ¬(1 < s.length ∧ (c.toNat : Int) = 48)) := fun c hc => by rw [hc, byte48]; simp
    cases hx0 : s[0]? with
    | none =>
      have hl0 : s = [] := by cases s with | nil => rfl | cons _ _ => simp at hx0
      subst hl0
      repeat' (first | ((with_reducible refine wcm ?_); first | refine cF (ho) ?_) | refine dr ?_ | (refine ds ?_ ?_ <;> intro hb) | ((with_reducible refine dbm ?_); first | exact db_nil | refine dbc ?_ ?_) | ((with_reducible refine natle ?_); first | assumption | omega | (simp; omega)))
      apply LP_go
      repeat' (first | refine dr ?_ | (refine ds ?_ ?_ <;> intro hb) | ((with_reducible refine dbm ?_); first | exact db_nil | refine dbc ?_ ?_) | ((with_reducible refine natle ?_); first | assumption | omega | (simp; omega)))
      simp [numberM, valM, pairI]
    | some c =>
      have h0 := h0 c hx0
      repeat' (first | ((with_reducible refine wcm ?_); first | refine cF (ho) ?_) | refine dr ?_ | (refine ds ?_ ?_ <;> intro hb) | ((with_reducible refine dbm ?_); first | exact db_nil | refine dbc ?_ ?_) | ((with_reducible refine natle ?_); first | assumption | omega | (simp; omega)))
      · have hN : numberM s = (0, 2) := by
          unfold numberM
          rw [if_pos (.inr ⟨by omega, by rw [hx0, byte48.1 ‹(c.toNat : Int) = 48›]⟩)]
        simp [hN, pairI]
      ·
        refine LP_ind (α := Nat × Int) (fun a => s.length - a.1) (fun a => [(0, .d (.str s)), (4, .d (.int .i64 a.2)), (20, .d (.int .i64 s.length)), (21, .d (.int .i64 a.1))]) (fun _ => [])
          (fun a => a.1 ≤ s.length ∧ 0 ≤ a.2 ∧ a.2 ≤ 1099511627776 ∧ valM a.2 (s.drop a.1) = valM 0 s) (0, 0) rfl rfl ⟨Nat.zero_le _, by decide, by decide, rfl⟩ ?_
        rintro ⟨i, n⟩ ⟨h1, h2, h3, h4⟩ ih
        simp only at h1 h2 h3 h4
        have hgood : ¬(1 < s.length ∧ s[0]? = some 48) := h0.2 (by omega)
        have hN : numberM s = valM 0 s := by
          unfold numberM
          rw [if_neg]
          rintro (h | h)
          · rw [hd] at h; cases h
          · exact hgood h
        apply LP_go
        cases hx : s[i]? with
        | none =>
          have hn : i = s.length := by have := List.getElem?_eq_none_iff.1 hx; omega
          subst hn
          repeat' (first | refine dr ?_ | (refine ds ?_ ?_ <;> intro hb) | ((with_reducible refine dbm ?_); first | exact db_nil | refine dbc ?_ ?_) | ((with_reducible refine natle ?_); first | assumption | omega | (simp; omega)))
          rw [List.drop_length] at h4
          simp [hN, pairI, ← h4, valM]
        | some b =>
          have hn : i < s.length := (List.getElem?_eq_some_iff.1 hx).1
          obtain ⟨hb1, hb2⟩ := digit_bounds (hall b (List.mem_of_getElem? hx))
          have hv : valM n (s.drop i) = if 1099511627776 < 10 * n + ((b.toNat : Int) - 48) then (0, 3) else valM (10 * n + ((b.toNat : Int) - 48)) (s.drop (i + 1)) := by
            rw [List.drop_eq_getElem_cons hn, valM]
            rw [show s[i] = b from by have := List.getElem?_eq_getElem hn; rw [hx] at this; exact (Option.some.inj this).symm]
          repeat' (first | refine dr ?_ | (refine ds ?_ ?_ <;> intro hb) | ((with_reducible refine dbm ?_); first | exact db_nil | refine dbc ?_ ?_) | ((with_reducible refine natle ?_); first | assumption | omega | (simp; omega)))
          · rw [if_pos (by assumption)] at hv
            simp [hN, pairI, ← h4, hv]
          · rw [if_neg (by assumption)] at hv
            refine LP_at ?_ rfl (ih (i + 1, 10 * n + ((b.toNat : Int) - 48)) ⟨hn, by simp only; omega, by simp only; omega, by simp only; rw [← hv]; exact h4⟩ (by simp only; omega))
            (first | (simp [Env.shr, Env.get, PV.exp, PV.ids, PV.ids.idsL]; done) | simp [Env.shr, Env.get, PV.exp, PV.ids, PV.ids.idsL, *])
      ·
        refine LP_ind (α := Nat × Int) (fun a => s.length - a.1) (fun a => [(0, .d (.str s)), (4, .d (.int .i64 a.2)), (20, .d (.int .i64 s.length)), (21, .d (.int .i64 a.1))]) (fun _ => [])
          (fun a => a.1 ≤ s.length ∧ 0 ≤ a.2 ∧ a.2 ≤ 1099511627776 ∧ valM a.2 (s.drop a.1) = valM 0 s) (0, 0) rfl rfl ⟨Nat.zero_le _, by decide, by decide, rfl⟩ ?_
        rintro ⟨i, n⟩ ⟨h1, h2, h3, h4⟩ ih
        simp only at h1 h2 h3 h4
        have hgood : ¬(1 < s.length ∧ s[0]? = some 48) := h0.2 (by omega)
        have hN : numberM s = valM 0 s := by
          unfold numberM
          rw [if_neg]
          rintro (h | h)
          · rw [hd] at h; cases h
          · exact hgood h
        apply LP_go
        cases hx : s[i]? with
        | none =>
          have hn : i = s.length := by have := List.getElem?_eq_none_iff.1 hx; omega
          subst hn
          repeat' (first | refine dr ?_ | (refine ds ?_ ?_ <;> intro hb) | ((with_reducible refine dbm ?_); first | exact db_nil | refine dbc ?_ ?_) | ((with_reducible refine natle ?_); first | assumption | omega | (simp; omega)))
          rw [List.drop_length] at h4
          simp [hN, pairI, ← h4, valM]
        | some b =>
          have hn : i < s.length := (List.getElem?_eq_some_iff.1 hx).1
          obtain ⟨hb1, hb2⟩ := digit_bounds (hall b (List.mem_of_getElem? hx))
          have hv : valM n (s.drop i) = if 1099511627776 < 10 * n + ((b.toNat : Int) - 48) then (0, 3) else valM (10 * n + ((b.toNat : Int) - 48)) (s.drop (i + 1)) := by
            rw [List.drop_eq_getElem_cons hn, valM]
            rw [show s[i] = b from by have := List.getElem?_eq_getElem hn; rw [hx] at this; exact (Option.some.inj this).symm]
          repeat' (first | refine dr ?_ | (refine ds ?_ ?_ <;> intro hb) | ((with_reducible refine dbm ?_); first | exact db_nil | refine dbc ?_ ?_) | ((with_reducible refine natle ?_); first | assumption | omega | (simp; omega)))
          · rw [if_pos (by assumption)] at hv
            simp [hN, pairI, ← h4, hv]
          · rw [if_neg (by assumption)] at hv
            refine LP_at ?_ rfl (ih (i + 1, 10 * n + ((b.toNat : Int) - 48)) ⟨hn, by simp only; omega, by simp only; omega, by simp only; rw [← hv]; exact h4⟩ (by simp only; omega))
            (first | (simp [Env.shr, Env.get, PV.exp, PV.ids, PV.ids.idsL]; done) | simp [Env.shr, Env.get, PV.exp, PV.ids, PV.ids.idsL, *])
end Go.Plane
end
section
set_option linter.unusedVariables false
set_option linter.unusedSimpArgs false
set_option maxRecDepth 100000
namespace Go.Plane
open Go Go.Proofs
/-- What a text is: the kind of its token, or the error. -/
def shapeM (s : List UInt8) : Int × Int :=
  match s with
  | [] => (0, 2)
  | b :: _ =>
    if (s.takeWhile isPart).length = s.length ∧ isDigit b then (if (numberM s).2 ≠ 0 then (0, (numberM s).2) else (4, 0))
    else if (s.takeWhile isPart).length = s.length ∧ b ≠ 95 then wordM s
    else if signM s = s then (5, 0) else (0, 2)
theorem shapeM_cons (b : UInt8) (r : List UInt8) : shapeM (b :: r) =
    if ((List.takeWhile isPart (b :: r)).length : Int) = (r.length : Int) + 1 ∧ isDigit b then (if (numberM (b :: r)).2 ≠ 0 then (0, (numberM (b :: r)).2) else (4, 0))
    else if ((List.takeWhile isPart (b :: r)).length : Int) = (r.length : Int) + 1 ∧ (b.toNat : Int) ≠ 95 then wordM (b :: r)
    else if signM (b :: r) = b :: r then (5, 0) else (0, 2) := by
  have h1 : ((List.takeWhile isPart (b :: r)).length = (b :: r).length) = (((List.takeWhile isPart (b :: r)).length : Int) = (r.length : Int) + 1) := by
    rw [List.length_cons (a := b)]; apply propext; omega
  have h2 : (b ≠ 95) = ((b.toNat : Int) ≠ 95) := by
    have := byte_eq b 95 (by decide)
    rw [Bool.eq_iff_iff, beq_iff_eq, beq_iff_eq] at this
    apply propext
    exact not_congr this.symm
  unfold shapeM
  simp only [h1, h2]
theorem f_Shape (s : List UInt8) (hs : s.length ≤ 4294967296) : F Γz 73 [.d (.str s)] (pairI (shapeM s)) := by
  refine fn_of c73 rfl (by simp only [Env.of, List.zipIdx, List.map]; rfl) ?_
  cases s with
  | nil =>
    have h : (([] : List UInt8) == []) = true := rfl
    repeat' (first | refine dr ?_ | (refine ds ?_ ?_ <;> intro hb) | ((with_reducible refine dbm ?_); first | exact db_nil | refine dbc ?_ ?_) | ((with_reducible refine natle ?_); first | assumption | omega | (simp; omega)))
    exact ⟨rfl, rfl⟩
  | cons b r =>
    have h : ((b :: r) == []) = false := rfl
    repeat' (first | ((with_reducible refine wcm ?_); first | refine cF (f_run _ hs) ?_ | refine cF (f_digit _) ?_ | refine cF (f_number _ hs) ?_ | refine cF (f_word _ hs) ?_ | refine cF (f_sign _) ?_) | refine dr ?_ | (refine ds ?_ ?_ <;> intro hb) | ((with_reducible refine dbm ?_); first | exact db_nil | refine dbc ?_ ?_) | ((with_reducible refine natle ?_); first | assumption | omega | (simp; omega)))
    all_goals (push_cast at *; simp [shapeM_cons, pairI, *])
end Go.Plane
end
section
set_option linter.unusedVariables false
set_option linter.unusedSimpArgs false
set_option maxRecDepth 100000
namespace Go.Plane
open Go Go.Proofs
def valueM (s : List UInt8) : Int × Int :=
  if (shapeM s).2 ≠ 0 then (0, (shapeM s).2) else if (shapeM s).1 ≠ 4 then (0, 2) else numberM s
end Go.Plane
end
section
set_option linter.unusedVariables false
set_option linter.unusedSimpArgs false
set_option maxRecDepth 100000
set_option maxHeartbeats 1000000
namespace Go.Plane
open Go Go.Proofs
def lastM (s : List UInt8) : Int := Lib.lastIndexByte ⟨s.toArray⟩ 10
def placeV (p : Int × Int) (e : Int) : PV := .tup [.agg [.int .i64 p.1, .int .i64 p.2], .d (.int .i64 e)]
def placeOfM (s : List UInt8) (off : Int) : (Int × Int) × Int :=
  if off < 0 ∨ (s.length : Int) < off then ((0, 0), 1) else ((1 + (s.take off.toNat).count 10, off - lastM (s.take off.toNat)), 0)
theorem lastM_le (s : List UInt8) : -1 ≤ lastM s ∧ lastM s ≤ s.length := by
  rcases Lib.lastIndexByte_spec ⟨s.toArray⟩ 10 with ⟨h, _⟩ | ⟨i, hi, h, _⟩
  · unfold lastM; rw [h]; omega
  · unfold lastM; rw [h]
    have : (⟨s.toArray⟩ : ByteArray).size = s.length := by simp [ByteArray.size]
    omega
theorem f_PlaceOf (s : List UInt8) (off : Int) (hs : s.length ≤ 4294967296) : F Γz 30 [.d (.str s), .d (.int .i64 off)] (placeV (placeOfM s off).1 (placeOfM s off).2) := by
  refine fn_of c30 rfl (by simp only [Env.of, List.zipIdx, List.map]; rfl) ?_
  have hlen : (s.take off.toNat).length ≤ s.length := by simp; omega
  have hcnt : (s.take off.toNat).count 10 ≤ (s.take off.toNat).length := List.count_le_length
  have hl1 := lastM_le (s.take off.toNat)
  have hL : F Γz 61 [.d (.str (s.take off.toNat)), .d (.int .u8 10)] (.d (.int .i64 (lastM (s.take off.toNat)))) := F_LastIndexByte (s.take off.toNat) 10 (by omega)
  repeat' (first | ((with_reducible refine wcm ?_); first | refine cF (F_Count _ 10) ?_ | refine cF (hL) ?_) | refine dr ?_ | (refine ds ?_ ?_ <;> intro hb) | ((with_reducible refine dbm ?_); first | exact db_nil | refine dbc ?_ ?_) | ((with_reducible refine natle ?_); first | assumption | omega | (simp; omega)))
  all_goals simp [placeOfM, placeV, *]
end Go.Plane
end
section
set_option linter.unusedVariables false
set_option linter.unusedSimpArgs false
set_option maxRecDepth 100000
set_option maxHeartbeats 1000000
namespace Go.Plane
open Go Go.Proofs
def textV (s : List UInt8) (e : Int) : PV := .tup [.d (.str s), .d (.int .i64 e)]
def editM (s : List UInt8) (a b : Int) (x : List UInt8) : List UInt8 × Int :=
  if a < 0 ∨ b < a ∨ (s.length : Int) < b then ([], 1)
  else if 20000 < (s.length : Int) - (b - a) + x.length then ([], 3)
  else (s.take a.toNat ++ x ++ s.drop b.toNat, 0)
theorem f_Edit (s : List UInt8) (a b : Int) (x : List UInt8) (hs : s.length ≤ 4294967296) (hx : x.length ≤ 4294967296) :
    F Γz 28 [.d (.str s), .agg [.int .i64 a, .int .i64 b, .str x]] (textV (editM s a b x).1 (editM s a b x).2) := by
  refine fn_of c28 rfl (by simp only [Env.of, List.zipIdx, List.map]; rfl) ?_
  have e1 : (s.take a.toNat).length ≤ s.length := by simp; omega
  have e2 : (s.take a.toNat ++ x).length ≤ s.length + x.length := by simp; omega
  have e3 : (s.drop b.toNat).length ≤ s.length := by simp
  repeat' (first | refine dr ?_ | (refine ds ?_ ?_ <;> intro hb) | ((with_reducible refine dbm ?_); first | exact db_nil | refine dbc ?_ ?_) | ((with_reducible refine natle ?_); first | assumption | omega | (simp; omega)))
  all_goals simp [editM, textV, *]
end Go.Plane
end
section
set_option linter.unusedVariables false
set_option linter.unusedSimpArgs false
set_option maxRecDepth 100000
set_option maxHeartbeats 1000000
namespace Go.Plane
open Go Go.Proofs
/-- The bytes of lines, with their line feeds. -/
def bytesM (l : List (List UInt8)) : Int := (l.map fun x => (x.length : Int) + 1).sum
theorem bytesM_nonneg : ∀ l, 0 ≤ bytesM l
  | [] => by simp [bytesM]
  | x :: l => by have := bytesM_nonneg l; simp only [bytesM, List.map_cons, List.sum_cons] at *; omega
theorem bytesM_append (a b : List (List UInt8)) : bytesM (a ++ b) = bytesM a + bytesM b := by simp [bytesM]
theorem bytesM_take_succ {l : List (List UInt8)} {i : Nat} {x : List UInt8} (h : l[i]? = some x) : bytesM (l.take (i + 1)) = bytesM (l.take i) + (x.length + 1) := by
  rw [List.take_add_one, bytesM_append, h]; simp [bytesM]
theorem bytesM_split (c : UInt8) : ∀ l, bytesM (splitL c l) = l.length + 1
  | [] => by simp [splitL, bytesM]
  | b :: l => by
    have ih := bytesM_split c l
    unfold splitL
    split
    · simp only [bytesM, List.map_cons, List.sum_cons, List.length_nil, List.length_cons] at *; omega
    · split
      · rename_i x r he
        rw [he] at ih
        simp only [bytesM, List.map_cons, List.sum_cons, List.length_cons] at *; omega
      · rename_i he; exact absurd he (splitL_ne c l)
theorem bytesM_take_le (l : List (List UInt8)) (n : Nat) : bytesM (l.take n) ≤ bytesM l := by
  have h : bytesM l = bytesM (l.take n) + bytesM (l.drop n) := by rw [← bytesM_append, List.take_append_drop]
  have := bytesM_nonneg (l.drop n)
  omega
def offsetM (s : List UInt8) (l c : Int) : Int × Int :=
  if l < 1 ∨ ((splitL 10 s).length : Int) < l ∨ c < 1 ∨ (((splitL 10 s)[(l - 1).toNat]?.getD []).length : Int) + 1 < c then (0, 1)
  else (c - 1 + bytesM ((splitL 10 s).take (l - 1).toNat), 0)
theorem strsD_len (l : List (List UInt8)) : ∀ y ∈ strsD l, y.length = 1 := by simp [strsD]
theorem strsD_take (l : List (List UInt8)) (n : Nat) : (strsD l).take n = strsD (l.take n) := by simp [strsD]
theorem strsD_drop (l : List (List UInt8)) (n : Nat) : (strsD l).drop n = strsD (l.drop n) := by simp [strsD]
theorem f_Offset (s : List UInt8) (l c : Int) (hs : s.length ≤ 2147483648) : F Γz 24 [.d (.str s), .agg [.int .i64 l, .int .i64 c]] (pairI (offsetM s l c)) := by
  refine fn_of c24 rfl (by simp only [Env.of, List.zipIdx, List.map]; rfl) ?_
  have hS := F_Split s 10 (by omega)
  have hlen := strsD_length (splitL 10 s)
  have hall := strsD_len (splitL 10 s)
  have hcnt : (splitL 10 s).length ≤ s.length + 1 := by rw [splitL_length]; have := List.count_le_length (a := (10 : UInt8)) (l := s); omega
  cases hx : (splitL 10 s)[(l - 1).toNat]? with
  | none =>
    have hn := List.getElem?_eq_none_iff.1 hx
    have hm : offsetM s l c = (0, 1) := by unfold offsetM; rw [if_pos]; omega
    repeat' (first | ((with_reducible refine wcm ?_); first | refine cF (hS) ?_) | refine dr ?_ | (refine ds ?_ ?_ <;> intro hb) | ((with_reducible refine dbm ?_); first | exact db_nil | refine dbc ?_ ?_) | ((with_reducible refine natle ?_); first | assumption | omega | (simp; omega)))
    all_goals simp [hm, pairI]
  | some x =>
    have hn := (List.getElem?_eq_some_iff.1 hx).1
    have hy := strsD_at hx
    have hxl : x.length ≤ s.length := splitL_le 10 s x (List.mem_of_getElem? hx)
    by_cases hc : l < 1 ∨ ((splitL 10 s).length : Int) < l ∨ c < 1 ∨ (x.length : Int) + 1 < c
    · have hm : offsetM s l c = (0, 1) := by unfold offsetM; rw [hx, Option.getD_some, if_pos hc]
      repeat' (first | ((with_reducible refine wcm ?_); first | refine cF (hS) ?_) | refine dr ?_ | (refine ds ?_ ?_ <;> intro hb) | ((with_reducible refine dbm ?_); first | exact db_nil | refine dbc ?_ ?_) | ((with_reducible refine natle ?_); first | assumption | omega | (simp; omega)))
      all_goals simp [hm, pairI]
    have hok : offsetM s l c = (c - 1 + bytesM ((splitL 10 s).take (l - 1).toNat), 0) := by unfold offsetM; rw [hx, Option.getD_some, if_neg hc]
    repeat' (first | ((with_reducible refine wcm ?_); first | refine cF (hS) ?_) | refine dr ?_ | (refine ds ?_ ?_ <;> intro hb) | ((with_reducible refine dbm ?_); first | exact db_nil | refine dbc ?_ ?_) | ((with_reducible refine natle ?_); first | assumption | omega | (simp; omega)))
    have hle := bytesM_take_le (splitL 10 s)
    have hsp := bytesM_split 10 s
    refine LP_for ((splitL 10 s).take (l - 1).toNat) (fun i n => [(7, .d (.int .i64 n)), (47, .d (.slice ((strsD (splitL 10 s)).take (l - 1).toNat))), (48, .d (.int .i64 ((strsD (splitL 10 s)).take (l - 1).toNat).length)), (49, .d (.int .i64 i))])
      (fun _ _ => [.box 28 [.d (.int .i64 l), .d (.int .i64 c)]]) (fun i n => n = c - 1 + bytesM (((splitL 10 s).take (l - 1).toNat).take i)) (c - 1) rfl rfl (by simp [bytesM]) ?_ ?_
    · rintro i y n hi hlt rfl ih
      have hy := strsD_at hi
      rw [← strsD_take] at hy
      have hb := bytesM_take_le ((splitL 10 s).take (l - 1).toNat) i
      have hb2 := hle (l - 1).toNat
      have hb3 := bytesM_nonneg (((splitL 10 s).take (l - 1).toNat).take i)
      have hyl : y.length ≤ s.length := splitL_le 10 s y (List.mem_of_mem_take (List.mem_of_getElem? hi))
      have hl2 : ((strsD (splitL 10 s)).take (l - 1).toNat).length = ((splitL 10 s).take (l - 1).toNat).length := by simp [strsD]
      have hl3 : ((splitL 10 s).take (l - 1).toNat).length ≤ (splitL 10 s).length := by simp; omega
      repeat' (first | refine dr ?_ | (refine ds ?_ ?_ <;> intro hb) | ((with_reducible refine dbm ?_); first | exact db_nil | refine dbc ?_ ?_) | ((with_reducible refine natle ?_); first | assumption | omega | (simp; omega)))
      refine LP_at ?_ rfl (ih _ rfl)
      rw [bytesM_take_succ hi]
      (first | (simp [Env.shr, Env.get, PV.exp, PV.ids, PV.ids.idsL]; done) | simp [Env.shr, Env.get, PV.exp, PV.ids, PV.ids.idsL, *])
      omega
    · rintro n rfl
      have hl2 : ((strsD (splitL 10 s)).take (l - 1).toNat).length = ((splitL 10 s).take (l - 1).toNat).length := by simp [strsD]
      repeat' (first | refine dr ?_ | (refine ds ?_ ?_ <;> intro hb) | ((with_reducible refine dbm ?_); first | exact db_nil | refine dbc ?_ ?_) | ((with_reducible refine natle ?_); first | assumption | omega | (simp; omega)))
      rw [List.take_length]
      simp [hok, pairI]
end Go.Plane
end
section
set_option linter.unusedVariables false
set_option linter.unusedSimpArgs false
set_option maxRecDepth 100000
set_option maxHeartbeats 1000000
namespace Go.Plane
open Go Go.Proofs
/-- A token: its kind, text, line and column. -/
structure Tok where
  k : Int
  s : List UInt8
  l : Int
  c : Int
  deriving DecidableEq
abbrev Tok.row (t : Tok) : List D := [.int .i64 t.k, .str t.s, .int .i64 t.l, .int .i64 t.c]
def toksD (l : List Tok) : List (List D) := l.map Tok.row
theorem toksD_length (l : List Tok) : (toksD l).length = l.length := by simp [toksD]
theorem toksD_at {l : List Tok} {n : Nat} {x : Tok} (h : l[n]? = some x) : (toksD l)[n]? = some [.int .i64 x.k, .str x.s, .int .i64 x.l, .int .i64 x.c] := by simp [toksD, h]
theorem toksD_len (l : List Tok) : ∀ y ∈ toksD l, y.length = 4 := by simp [toksD]
theorem toksD_append (a b : List Tok) : toksD (a ++ b) = toksD a ++ toksD b := by simp [toksD]

def cmpM (a b : Int) : Int := if a < b then -1 else if b < a then 1 else 0
def compareM (l c l' c' : Int) : Int := if cmpM l l' ≠ 0 then cmpM l l' else cmpM c c'
theorem f_Or (a b : Int) : F Γz 59 [.d (.slice [[.int .i64 a], [.int .i64 b]])] (.d (.int .i64 (if a ≠ 0 then a else b))) := by
  refine fn_of c59 rfl (by simp only [Env.of, List.zipIdx, List.map]; rfl) ?_
  repeat' (first | refine dr ?_ | (refine ds ?_ ?_ <;> intro hb) | ((with_reducible refine dbm ?_); first | exact db_nil | refine dbc ?_ ?_) | ((with_reducible refine natle ?_); first | assumption | omega | (simp; omega)))
  apply LP_go
  repeat' (first | refine dr ?_ | (refine ds ?_ ?_ <;> intro hb) | ((with_reducible refine dbm ?_); first | exact db_nil | refine dbc ?_ ?_) | ((with_reducible refine natle ?_); first | assumption | omega | (simp; omega)))
  · simp_all
  refine LP_at (env' := [(3, .d (.int .i64 0)), (6, .d (.slice [[.int .i64 a], [.int .i64 b]])), (7, .d (.int .i64 2)), (8, .d (.int .i64 1))]) ?_ rfl ?_
  · (first | (simp [Env.shr, Env.get, PV.exp, PV.ids, PV.ids.idsL]; done) | simp [Env.shr, Env.get, PV.exp, PV.ids, PV.ids.idsL, *])
  apply LP_go
  repeat' (first | refine dr ?_ | (refine ds ?_ ?_ <;> intro hb) | ((with_reducible refine dbm ?_); first | exact db_nil | refine dbc ?_ ?_) | ((with_reducible refine natle ?_); first | assumption | omega | (simp; omega)))
  · simp_all
  refine LP_at (env' := [(3, .d (.int .i64 0)), (6, .d (.slice [[.int .i64 a], [.int .i64 b]])), (7, .d (.int .i64 2)), (8, .d (.int .i64 2))]) ?_ rfl ?_
  · (first | (simp [Env.shr, Env.get, PV.exp, PV.ids, PV.ids.idsL]; done) | simp [Env.shr, Env.get, PV.exp, PV.ids, PV.ids.idsL, *])
  apply LP_go
  repeat' (first | refine dr ?_ | (refine ds ?_ ?_ <;> intro hb) | ((with_reducible refine dbm ?_); first | exact db_nil | refine dbc ?_ ?_) | ((with_reducible refine natle ?_); first | assumption | omega | (simp; omega)))
  simp_all
theorem f_compare (l c l' c' : Int) : F Γz 29 [.agg [.int .i64 l, .int .i64 c], .agg [.int .i64 l', .int .i64 c']] (.d (.int .i64 (compareM l c l' c'))) := by
  refine fn_of c29 rfl (by simp only [Env.of, List.zipIdx, List.map]; rfl) ?_
  repeat' (first | ((with_reducible refine wcm ?_); first | refine cF (F_Compare _ _) ?_ | refine cF (f_Or _ _) ?_) | refine dr ?_ | (refine ds ?_ ?_ <;> intro hb) | ((with_reducible refine dbm ?_); first | exact db_nil | refine dbc ?_ ?_) | ((with_reducible refine natle ?_); first | assumption | omega | (simp; omega)))
  exact ⟨rfl, rfl⟩
def sameTokM (a b : Tok) : Bool := a.k == b.k && a.s == b.s
theorem f_equal (a b : Tok) : F Γz 52 [.agg a.row, .agg b.row] (.d (.bool (sameTokM a b))) := by
  refine fn_of c52 rfl (by simp only [Env.of, List.zipIdx, List.map]; rfl) ?_
  repeat' (first | refine dr ?_ | (refine ds ?_ ?_ <;> intro hb) | ((with_reducible refine dbm ?_); first | exact db_nil | refine dbc ?_ ?_) | ((with_reducible refine natle ?_); first | assumption | omega | (simp; omega)))
  all_goals simp [sameTokM, *]
theorem f_token (k : Int) : F Γz 33 [.d (.int .i64 k)] (.d (.bool (k != 6))) := by
  refine fn_of c33 rfl (by simp only [Env.of, List.zipIdx, List.map]; rfl) ?_
  repeat' (first | refine dr ?_ | (refine ds ?_ ?_ <;> intro hb) | ((with_reducible refine dbm ?_); first | exact db_nil | refine dbc ?_ ?_) | ((with_reducible refine natle ?_); first | assumption | omega | (simp; omega)))
  all_goals exact ⟨rfl, rfl⟩
theorem f_note (k : Int) : F Γz 74 [.d (.int .i64 k)] (.d (.bool (k == 6))) := by
  refine fn_of c74 rfl (by simp only [Env.of, List.zipIdx, List.map]; rfl) ?_
  repeat' (first | refine dr ?_ | (refine ds ?_ ?_ <;> intro hb) | ((with_reducible refine dbm ?_); first | exact db_nil | refine dbc ?_ ?_) | ((with_reducible refine natle ?_); first | assumption | omega | (simp; omega)))
  all_goals exact ⟨rfl, rfl⟩
end Go.Plane
end
section
set_option linter.unusedVariables false
set_option linter.unusedSimpArgs false
set_option maxRecDepth 100000
set_option maxHeartbeats 1000000
namespace Go.Plane
open Go Go.Proofs
theorem r_digit (b : UInt8) : F Γz 98 [.d (.int .u8 b.toNat)] (.d (.bool (isDigit b))) := by
  refine fn_of c98 rfl (by simp only [Env.of, List.zipIdx, List.map]; rfl) ?_
  repeat' (first | refine dr ?_ | (refine ds ?_ ?_ <;> intro hb) | ((with_reducible refine dbm ?_); first | exact db_nil | refine dbc ?_ ?_) | ((with_reducible refine natle ?_); first | assumption | omega | (simp; omega)))
  all_goals simp [isDigit_int, *]
theorem r_small (b : UInt8) : F Γz 96 [.d (.int .u8 b.toNat)] (.d (.bool (isSmall b))) := by
  refine fn_of c96 rfl (by simp only [Env.of, List.zipIdx, List.map]; rfl) ?_
  repeat' (first | refine dr ?_ | (refine ds ?_ ?_ <;> intro hb) | ((with_reducible refine dbm ?_); first | exact db_nil | refine dbc ?_ ?_) | ((with_reducible refine natle ?_); first | assumption | omega | (simp; omega)))
  all_goals simp [isSmall_int, *]
theorem r_capital (b : UInt8) : F Γz 97 [.d (.int .u8 b.toNat)] (.d (.bool (isCapital b))) := by
  refine fn_of c97 rfl (by simp only [Env.of, List.zipIdx, List.map]; rfl) ?_
  repeat' (first | refine dr ?_ | (refine ds ?_ ?_ <;> intro hb) | ((with_reducible refine dbm ?_); first | exact db_nil | refine dbc ?_ ?_) | ((with_reducible refine natle ?_); first | assumption | omega | (simp; omega)))
  all_goals simp [isCapital_int, *]
theorem r_part (b : UInt8) : F Γz 67 [.d (.int .u8 b.toNat)] (.d (.bool (isPart b))) := by
  refine fn_of c67 rfl (by simp only [Env.of, List.zipIdx, List.map]; rfl) ?_
  repeat' (first | ((with_reducible refine wcm ?_); first | refine cF (r_small _) ?_ | refine cF (r_capital _) ?_ | refine cF (r_digit _) ?_) | refine dr ?_ | (refine ds ?_ ?_ <;> intro hb) | ((with_reducible refine dbm ?_); first | exact db_nil | refine dbc ?_ ?_) | ((with_reducible refine natle ?_); first | assumption | omega | (simp; omega)))
  all_goals simp [isPart_int, *]
theorem r_has (l : List (List UInt8)) (s : List UInt8) (hl : l.length ≤ 4294967296) : F Γz 99 [.d (.slice (strsD l)), .d (.str s)] (.d (.bool (decide (s ∈ l)))) := by
  refine fn_of c99 rfl (by simp only [Env.of, List.zipIdx, List.map]; rfl) ?_
  have hlen := strsD_length l
  repeat' (first | refine dr ?_ | (refine ds ?_ ?_ <;> intro hb) | ((with_reducible refine dbm ?_); first | exact db_nil | refine dbc ?_ ?_) | ((with_reducible refine natle ?_); first | assumption | omega | (simp; omega)))
  refine LP_for l (fun i _ => [(0, .d (.slice (strsD l))), (1, .d (.str s)), (5, .d (.int .i64 i))]) (fun _ _ => []) (fun i (_ : Unit) => ∀ x ∈ l.take i, x ≠ s) () rfl rfl (by simp) ?_ ?_
  · rintro i x _ hi hlt hI ih
    have hy := strsD_at hi
    repeat' (first | refine dr ?_ | (refine ds ?_ ?_ <;> intro hb) | ((with_reducible refine dbm ?_); first | exact db_nil | refine dbc ?_ ?_) | ((with_reducible refine natle ?_); first | assumption | omega | (simp; omega)))
    · have : s ∈ l := by rw [← ‹x = s›]; exact List.mem_of_getElem? hi
      simp [this]
    · refine LP_at ?_ rfl (ih () fun y hy => ?_)
      · (first | (simp [Env.shr, Env.get, PV.exp, PV.ids, PV.ids.idsL]; done) | simp [Env.shr, Env.get, PV.exp, PV.ids, PV.ids.idsL, *])
      · rw [List.take_add_one, List.mem_append, hi] at hy
        rcases hy with hy | hy
        · exact hI y hy
        · simp at hy; subst hy; assumption
  · rintro _ hI
    repeat' (first | refine dr ?_ | (refine ds ?_ ?_ <;> intro hb) | ((with_reducible refine dbm ?_); first | exact db_nil | refine dbc ?_ ?_) | ((with_reducible refine natle ?_); first | assumption | omega | (simp; omega)))
    rw [List.take_length] at hI
    have : s ∉ l := fun h => hI s h rfl
    simp [this]
theorem r_Keywords : F Γz 118 [] (.d (.slice (strsD keywords))) := by
  refine fn_of c118 rfl (by simp only [Env.of, List.zipIdx, List.map]; rfl) ?_
  repeat' (first | refine dr ?_ | (refine ds ?_ ?_ <;> intro hb) | ((with_reducible refine dbm ?_); first | exact db_nil | refine dbc ?_ ?_) | ((with_reducible refine natle ?_); first | assumption | omega | (simp; omega)))
  exact ⟨rfl, rfl⟩
theorem r_signs : F Γz 95 [] (.d (.slice (strsD signs))) := by
  refine fn_of c95 rfl (by simp only [Env.of, List.zipIdx, List.map]; rfl) ?_
  repeat' (first | refine dr ?_ | (refine ds ?_ ?_ <;> intro hb) | ((with_reducible refine dbm ?_); first | exact db_nil | refine dbc ?_ ?_) | ((with_reducible refine natle ?_); first | assumption | omega | (simp; omega)))
  exact ⟨rfl, rfl⟩
theorem r_run (s : List UInt8) (n : Nat) (hs : s.length ≤ 4294967296) (hn : n ≤ s.length) : F Γz 68 [.d (.str s), .d (.int .i64 n)] (.d (.int .i64 ((s.drop n).takeWhile isPart).length)) := by
  refine fn_of c68 rfl (by simp only [Env.of, List.zipIdx, List.map]; rfl) ?_
  repeat' (first | refine dr ?_ | (refine ds ?_ ?_ <;> intro hb) | ((with_reducible refine dbm ?_); first | exact db_nil | refine dbc ?_ ?_) | ((with_reducible refine natle ?_); first | assumption | omega | (simp; omega)))
  refine LP_for (s.drop n) (fun i _ => [(0, .d (.str s)), (1, .d (.int .i64 n)), (5, .d (.int .i64 i))]) (fun _ _ => []) (fun i (_ : Unit) => ∀ b ∈ (s.drop n).take i, isPart b = true) () rfl rfl (by simp) ?_ ?_
  · rintro i b _ hi hlt hI ih
    have hx : s[n + i]? = some b := by rw [List.getElem?_drop] at hi; exact hi
    have hx' : s[((n : Int) + (i : Int)).toNat]? = some b := by rw [show ((n : Int) + (i : Int)).toNat = n + i by omega]; exact hx
    have hlt' : n + i < s.length := (List.getElem?_eq_some_iff.1 hx).1
    repeat' (first | ((with_reducible refine wcm ?_); first | refine cF (r_part _) ?_) | refine dr ?_ | (refine ds ?_ ?_ <;> intro hb) | ((with_reducible refine dbm ?_); first | exact db_nil | refine dbc ?_ ?_) | ((with_reducible refine natle ?_); first | assumption | omega | (simp; omega)))
    · refine LP_at ?_ rfl (ih () fun c hc => ?_)
      · (first | (simp [Env.shr, Env.get, PV.exp, PV.ids, PV.ids.idsL]; done) | simp [Env.shr, Env.get, PV.exp, PV.ids, PV.ids.idsL, *])
      · rw [List.take_add_one, List.mem_append, hi] at hc
        rcases hc with hc | hc
        · exact hI c hc
        · simp at hc; subst hc; assumption
    · rw [takeWhile_at hI (by omega) (fun c hc => by rw [hi] at hc; cases hc; assumption)]
      simp
  · rintro _ hI
    have hl : (s.drop n).length = s.length - n := List.length_drop
    repeat' (first | refine dr ?_ | (refine ds ?_ ?_ <;> intro hb) | ((with_reducible refine dbm ?_); first | exact db_nil | refine dbc ?_ ?_) | ((with_reducible refine natle ?_); first | assumption | omega | (simp; omega)))
    rw [takeWhile_at (n := (s.drop n).length) hI (by omega) (fun c hc => by simp at hc)]
    simp
end Go.Plane
end
section
set_option linter.unusedVariables false
set_option linter.unusedSimpArgs false
set_option maxRecDepth 100000
set_option maxHeartbeats 2000000
namespace Go.Plane
open Go Go.Proofs
def aggI (p : Int × Int) : PV := .agg [.int .i64 p.1, .int .i64 p.2]
def wordR (s : List UInt8) : Int × Int :=
  if s ∈ keywords ∨ s ∈ specials then (3, 0) else if s ∈ lowers then (0, 4)
  else if s.any isSmall = true ∧ s.any isCapital = true then (0, 2) else if (20 : Int) < s.length then (0, 3) else if s.any isSmall = true then (1, 0) else (2, 0)
theorem any_take_succ {p : UInt8 → Bool} {s : List UInt8} {i : Nat} {b : UInt8} (h : s[i]? = some b) : (s.take (i + 1)).any p = ((s.take i).any p || p b) := by
  rw [List.take_add_one, List.any_append, h]; simp
theorem r_word (s : List UInt8) (hs : s.length ≤ 4294967296) : F Γz 101 [.d (.str s)] (aggI (wordR s)) := by
  refine fn_of c101 rfl (by simp only [Env.of, List.zipIdx, List.map]; rfl) ?_
  have h1 : F Γz 99 [.d (.slice (strsD keywords)), .d (.str s)] _ := r_has keywords s (by decide)
  have h2 : F Γz 99 [.d (.slice [[.str [84, 114, 117, 101]], [.str [70, 97, 108, 115, 101]], [.str [86, 111, 105, 100]], [.str [67, 117, 114, 114, 101, 110, 116]], [.str [82, 101, 115, 117, 108, 116]]]), .d (.str s)] _ := r_has specials s (by decide)
  have h3 : F Γz 99 [.d (.slice [[.str [116, 114, 117, 101]], [.str [102, 97, 108, 115, 101]], [.str [118, 111, 105, 100]], [.str [99, 117, 114, 114, 101, 110, 116]], [.str [114, 101, 115, 117, 108, 116]]]), .d (.str s)] _ := r_has lowers s (by decide)
  repeat' (first | ((with_reducible refine wcm ?_); first | refine cF (r_Keywords) ?_ | refine cF (h1) ?_ | refine cF (h2) ?_ | refine cF (h3) ?_) | refine dr ?_ | (refine ds ?_ ?_ <;> intro hb) | ((with_reducible refine dbm ?_); first | exact db_nil | refine dbc ?_ ?_) | ((with_reducible refine natle ?_); first | assumption | omega | (simp; omega)))
  all_goals try (simp [wordR, aggI, *]; done)
  refine LP_for s (fun i (a : Bool × Bool) => [(0, .d (.str s)), (2, .ptr 0 0), (3, .d (.bool a.1)), (4, .d (.bool a.2)), (5, .d (.int .i64 i))]) (fun _ _ => [.box 120 [.d (.int .i64 0), .d (.int .i64 0)]])
    (fun i a => a = ((s.take i).any isSmall, (s.take i).any isCapital)) (false, false) rfl rfl (by simp) ?_ ?_
  · rintro i b ⟨lo, hi⟩ hx hlt hI ih
    simp only [Prod.mk.injEq] at hI
    have t1 := any_take_succ (p := isSmall) hx
    have t2 := any_take_succ (p := isCapital) hx
    rw [← hI.1] at t1
    rw [← hI.2] at t2
    clear hI h1 h2 h3
    repeat' (first | ((with_reducible refine wcm ?_); first | refine cF (r_small _) ?_ | refine cF (r_capital _) ?_) | refine dr ?_ | (refine ds ?_ ?_ <;> intro hb) | ((with_reducible refine dbm ?_); first | exact db_nil | refine dbc ?_ ?_) | ((with_reducible refine natle ?_); first | assumption | omega | (simp; omega)))
    all_goals
      refine LP_at ?_ rfl (ih _ rfl)
      (first | (simp [Env.shr, Env.get, PV.exp, PV.ids, PV.ids.idsL]; done) | simp [Env.shr, Env.get, PV.exp, PV.ids, PV.ids.idsL, *])
  · rintro ⟨lo, hi⟩ hI
    simp only [Prod.mk.injEq, List.take_length] at hI
    obtain ⟨rfl, rfl⟩ := hI
    clear h1 h2 h3
    repeat' (first | refine dr ?_ | (refine ds ?_ ?_ <;> intro hb) | ((with_reducible refine dbm ?_); first | exact db_nil | refine dbc ?_ ?_) | ((with_reducible refine natle ?_); first | assumption | omega | (simp; omega)))
    all_goals simp [wordR, aggI, *]
end Go.Plane
end
section
set_option linter.unusedVariables false
set_option linter.unusedSimpArgs false
set_option maxRecDepth 100000
set_option maxHeartbeats 2000000
namespace Go.Plane
open Go Go.Proofs
theorem r_number (c : UInt8) (r : List UInt8) (hs : (c :: r).length ≤ 4294967296) : F Γz 100 [.d (.str (c :: r))] (aggI (numberM (c :: r))) := by
  refine fn_of c100 rfl (by simp only [Env.of, List.zipIdx, List.map]; rfl) ?_
  have hx0 : (c :: r)[0]? = some c := rfl
  have hl1 : 1 ≤ (c :: r).length := by simp
  have hbad : (c :: r)[0]? = some 48 ↔ (c.toNat : Int) = 48 := by rw [hx0, Option.some.injEq]; exact (byteN c 48 (by decide)).symm
  generalize hS : c :: r = s at *
  repeat' (first | refine dr ?_ | (refine ds ?_ ?_ <;> intro hb) | ((with_reducible refine dbm ?_); first | exact db_nil | refine dbc ?_ ?_) | ((with_reducible refine natle ?_); first | assumption | omega | (simp; omega)))
  refine LP_for s (fun i _ => [(0, .d (.str s)), (2, .ptr 0 0), (3, .d (.int .i64 i))]) (fun _ _ => [.box 112 [.d (.int .i64 0), .d (.int .i64 0)]])
    (fun i (_ : Unit) => ∀ b ∈ s.take i, isDigit b = true) () rfl rfl (by simp) ?_ ?_
  · rintro i b _ hx hlt hI ih
    repeat' (first | ((with_reducible refine wcm ?_); first | refine cF (r_digit _) ?_) | refine dr ?_ | (refine ds ?_ ?_ <;> intro hb) | ((with_reducible refine dbm ?_); first | exact db_nil | refine dbc ?_ ?_) | ((with_reducible refine natle ?_); first | assumption | omega | (simp; omega)))
    · have : s.all isDigit = false := by
        rw [Bool.eq_false_iff]
        intro h
        have := List.all_eq_true.1 h b (List.mem_of_getElem? hx)
        simp_all
      have hm : numberM s = (0, 2) := by unfold numberM; rw [if_pos (.inl this)]
      simp [hm, aggI]
    · refine LP_at ?_ rfl (ih () fun y hy => ?_)
      · (first | (simp [Env.shr, Env.get, PV.exp, PV.ids, PV.ids.idsL]; done) | simp [Env.shr, Env.get, PV.exp, PV.ids, PV.ids.idsL, *])
      · rw [List.take_add_one, List.mem_append, hx] at hy
        rcases hy with hy | hy
        · exact hI y hy
        · simp at hy; subst hy; assumption
  rintro _ hI
  rw [List.take_length] at hI
  have hd : s.all isDigit = true := List.all_eq_true.2 hI
  by_cases hg : (c.toNat : Int) = 48 ∧ (1 : Int) < s.length
  · have hm : numberM s = (0, 2) := by unfold numberM; rw [if_pos (.inr ⟨by omega, hbad.2 hg.1⟩)]
    obtain ⟨hg1, hg2⟩ := hg
    clear hS hbad
    repeat' (first | refine dr ?_ | (refine ds ?_ ?_ <;> intro hb) | ((with_reducible refine dbm ?_); first | exact db_nil | refine dbc ?_ ?_) | ((with_reducible refine natle ?_); first | assumption | omega | (simp; omega)))
    simp [hm, aggI]
  have hm : numberM s = valM 0 s := by
    unfold numberM
    rw [if_neg]
    rintro (h | h)
    · rw [hd] at h; cases h
    · exact hg ⟨hbad.1 h.2, by omega⟩
  have hgood : (c.toNat : Int) ≠ 48 ∨ ¬(1 : Int) < s.length := by
    rcases Decidable.em ((c.toNat : Int) = 48) with h | h
    · exact .inr fun h2 => hg ⟨h, h2⟩
    · exact .inl h
  clear hS hbad hg
  repeat' (first | refine dr ?_ | (refine ds ?_ ?_ <;> intro hb) | ((with_reducible refine dbm ?_); first | exact db_nil | refine dbc ?_ ?_) | ((with_reducible refine natle ?_); first | assumption | omega | (simp; omega)))
  · refine LP_for s (fun i (n : Int) => [(0, .d (.str s)), (2, .ptr 0 0), (4, .d (.int .i64 n)), (5, .d (.int .i64 i))]) (fun _ _ => [.box 112 [.d (.int .i64 0), .d (.int .i64 0)]])
      (fun i n => 0 ≤ n ∧ n ≤ 1099511627776 ∧ valM n (s.drop i) = valM 0 s) 0 rfl rfl ⟨by decide, by decide, rfl⟩ ?_ ?_
    · rintro i b n hx hlt ⟨h2, h3, h4⟩ ih
      obtain ⟨hb1, hb2⟩ := digit_bounds (hI b (List.mem_of_getElem? hx))
      have hv : valM n (s.drop i) = if 1099511627776 < 10 * n + ((b.toNat : Int) - 48) then (0, 3) else valM (10 * n + ((b.toNat : Int) - 48)) (s.drop (i + 1)) := by
        rw [List.drop_eq_getElem_cons hlt, valM]
        rw [show s[i] = b from by have := List.getElem?_eq_getElem hlt; rw [hx] at this; exact (Option.some.inj this).symm]
      have e1 : 10 * n + (b.toNat : Int) - 48 = 10 * n + ((b.toNat : Int) - 48) := by omega
      have hz : b.toNat < 256 := UInt8.toNat_lt b
      repeat' (first | refine dr ?_ | (refine ds ?_ ?_ <;> intro hb) | ((with_reducible refine dbm ?_); first | exact db_nil | refine dbc ?_ ?_) | ((with_reducible refine natle ?_); first | assumption | omega | (simp; omega)))
      · rw [if_pos (by omega)] at hv
        simp [hm, aggI, ← h4, hv]
      · rw [if_neg (by omega)] at hv
        refine LP_at ?_ rfl (ih (10 * n + ((b.toNat : Int) - 48)) ⟨by omega, by omega, by rw [← hv]; exact h4⟩)
        simp [Env.shr, Env.get, PV.exp, PV.ids, PV.ids.idsL, e1]
    · rintro n ⟨h2, h3, h4⟩
      rw [List.drop_length] at h4
      repeat' (first | refine dr ?_ | (refine ds ?_ ?_ <;> intro hb) | ((with_reducible refine dbm ?_); first | exact db_nil | refine dbc ?_ ?_) | ((with_reducible refine natle ?_); first | assumption | omega | (simp; omega)))
      simp [hm, aggI, ← h4, valM]
  · refine LP_for s (fun i (n : Int) => [(0, .d (.str s)), (2, .ptr 0 0), (4, .d (.int .i64 n)), (5, .d (.int .i64 i))]) (fun _ _ => [.box 112 [.d (.int .i64 0), .d (.int .i64 0)]])
      (fun i n => 0 ≤ n ∧ n ≤ 1099511627776 ∧ valM n (s.drop i) = valM 0 s) 0 rfl rfl ⟨by decide, by decide, rfl⟩ ?_ ?_
    · rintro i b n hx hlt ⟨h2, h3, h4⟩ ih
      obtain ⟨hb1, hb2⟩ := digit_bounds (hI b (List.mem_of_getElem? hx))
      have hv : valM n (s.drop i) = if 1099511627776 < 10 * n + ((b.toNat : Int) - 48) then (0, 3) else valM (10 * n + ((b.toNat : Int) - 48)) (s.drop (i + 1)) := by
        rw [List.drop_eq_getElem_cons hlt, valM]
        rw [show s[i] = b from by have := List.getElem?_eq_getElem hlt; rw [hx] at this; exact (Option.some.inj this).symm]
      have e1 : 10 * n + (b.toNat : Int) - 48 = 10 * n + ((b.toNat : Int) - 48) := by omega
      have hz : b.toNat < 256 := UInt8.toNat_lt b
      repeat' (first | refine dr ?_ | (refine ds ?_ ?_ <;> intro hb) | ((with_reducible refine dbm ?_); first | exact db_nil | refine dbc ?_ ?_) | ((with_reducible refine natle ?_); first | assumption | omega | (simp; omega)))
      · rw [if_pos (by omega)] at hv
        simp [hm, aggI, ← h4, hv]
      · rw [if_neg (by omega)] at hv
        refine LP_at ?_ rfl (ih (10 * n + ((b.toNat : Int) - 48)) ⟨by omega, by omega, by rw [← hv]; exact h4⟩)
        simp [Env.shr, Env.get, PV.exp, PV.ids, PV.ids.idsL, e1]
    · rintro n ⟨h2, h3, h4⟩
      rw [List.drop_length] at h4
      repeat' (first | refine dr ?_ | (refine ds ?_ ?_ <;> intro hb) | ((with_reducible refine dbm ?_); first | exact db_nil | refine dbc ?_ ?_) | ((with_reducible refine natle ?_); first | assumption | omega | (simp; omega)))
      simp [hm, aggI, ← h4, valM]
end Go.Plane
end
section
set_option linter.unusedVariables false
set_option linter.unusedSimpArgs false
set_option maxRecDepth 100000
set_option maxHeartbeats 2000000
namespace Go.Plane
open Go Go.Proofs
theorem part_cases {b : UInt8} (h : isPart b = true) : isSmall b = true ∨ isCapital b = true ∨ isDigit b = true ∨ b = 95 := by
  simp only [isPart, Bool.or_eq_true, beq_iff_eq] at h
  rcases h with ((h | h) | h) | h
  · exact .inl h
  · exact .inr (.inl h)
  · exact .inr (.inr (.inl h))
  · exact .inr (.inr (.inr h))
theorem takeWhile_all {p : UInt8 → Bool} {s : List UInt8} (h : (s.takeWhile p).length = s.length) : ∀ b ∈ s, p b = true := by
  induction s with
  | nil => simp
  | cons c s ih =>
    intro b hb
    by_cases hc : p c = true
    · rw [List.takeWhile_cons, if_pos hc] at h
      rcases List.mem_cons.1 hb with rfl | hb
      · exact hc
      · exact ih (by simpa using h) b hb
    · rw [List.takeWhile_cons, if_neg hc] at h
      simp at h
theorem wordR_eq {b : UInt8} {r : List UInt8} (hall : ∀ c ∈ b :: r, isPart c = true) (hd : isDigit b = false) (hu : b ≠ 95) : wordR (b :: r) = wordM (b :: r) := by
  have hp : (b :: r).all (fun c => isPart c && !isCapital c) = !(b :: r).any isCapital := by
    rw [Bool.eq_iff_iff, List.all_eq_true, Bool.not_eq_true', List.any_eq_false]
    exact ⟨fun h c hc => by have := h c hc; simp at this; simp [this.2], fun h c hc => by have := h c hc; simp [hall c hc, this]⟩
  have hq : (b :: r).all (fun c => isPart c && !isSmall c) = !(b :: r).any isSmall := by
    rw [Bool.eq_iff_iff, List.all_eq_true, Bool.not_eq_true', List.any_eq_false]
    exact ⟨fun h c hc => by have := h c hc; simp at this; simp [this.2], fun h c hc => by have := h c hc; simp [hall c hc, this]⟩
  have hb : (b :: r).any isSmall = true ∨ (b :: r).any isCapital = true := by
    rcases part_cases (hall b (by simp)) with h | h | h | h
    · exact .inl (by simp [h])
    · exact .inr (by simp [h])
    · rw [h] at hd; cases hd
    · exact absurd h hu
  have hl : ((20 : Int) < ((b :: r).length : Int)) = (20 < (b :: r).length) := by apply propext; omega
  unfold wordR wordM
  rw [hp, hq]
  simp only [hl]
  clear hp hq hl hall
  revert hb
  generalize (b :: r).any isSmall = x
  generalize (b :: r).any isCapital = y
  cases x <;> cases y <;> simp
theorem signs_ne (s : List UInt8) : signM [] = [] := rfl
theorem signM_mem {s x : List UInt8} (h : signM s = x) (hx : x ≠ []) : x ∈ signs ∧ x.isPrefixOf s = true := by
  unfold signM at h
  cases hf : signs.find? (fun x => x.isPrefixOf s) with
  | none => rw [hf] at h; exact absurd h.symm hx
  | some y =>
    rw [hf] at h
    simp at h
    subst h
    have h1 := List.mem_of_find?_eq_some hf
    have h2 := List.find?_some hf
    exact ⟨h1, h2⟩
theorem signM_sign {s : List UInt8} (h : s ∈ signs) : signM s = s := by
  have : ∀ x ∈ signs, signM x = x := by decide
  exact this s h
theorem sign_head {b : UInt8} {r : List UInt8} (h : b :: r ∈ signs) : isPart b = false := by
  have : ∀ x ∈ signs, ∀ c, x.head? = some c → isPart c = false := by decide
  exact this _ h b rfl
theorem mem_signs (b : UInt8) (r : List UInt8) : b :: r ∈ signs ↔ signM (b :: r) = b :: r :=
  ⟨signM_sign, fun h => (signM_mem h (by simp)).1⟩
theorem r_Shape (s : List UInt8) (hs : s.length ≤ 4294967296) : F Γz 69 [.d (.str s)] (aggI (shapeM s)) := by
  refine fn_of c69 rfl (by simp only [Env.of, List.zipIdx, List.map]; rfl) ?_
  have hh := r_has signs s (by decide)
  cases s with
  | nil =>
    have h0 : decide (([] : List UInt8) ∈ signs) = false := by decide
    rw [h0] at hh
    repeat' (first | ((with_reducible refine wcm ?_); first | refine cF (r_signs) ?_ | refine cF (hh) ?_) | refine dr ?_ | (refine ds ?_ ?_ <;> intro hb) | ((with_reducible refine dbm ?_); first | exact db_nil | refine dbc ?_ ?_) | ((with_reducible refine natle ?_); first | assumption | omega | (simp; omega)))
    exact ⟨rfl, rfl⟩
  | cons b r =>
    have hm : decide (b :: r ∈ signs) = decide (signM (b :: r) = b :: r) := by rw [decide_eq_decide]; exact mem_signs b r
    rw [hm] at hh
    have hr : F Γz 68 [.d (.str (b :: r)), .d (.int .i64 0)] (.d (.int .i64 (List.takeWhile isPart (b :: r)).length)) := r_run (b :: r) 0 hs (by simp)
    have hx0 : (b :: r)[0]? = some b := rfl
    have htw : ((List.takeWhile isPart (b :: r)).length : Int) ≤ r.length + 1 := by have := (List.takeWhile_sublist (p := isPart) (l := b :: r)).length_le; simp only [List.length_cons] at this; omega
    have hsg : signM (b :: r) = b :: r → isPart b = false := fun h => sign_head ((mem_signs b r).2 h)
    have htw2 : isPart b = false → (List.takeWhile isPart (b :: r)).length = 0 := fun h => by rw [List.takeWhile_cons, if_neg (by simp [h])]; rfl
    have hwd : ((List.takeWhile isPart (b :: r)).length : Int) = r.length + 1 → isDigit b = false → (b.toNat : Int) ≠ 95 → wordR (b :: r) = wordM (b :: r) := fun h1 h2 h3 =>
      wordR_eq (takeWhile_all (by simp only [List.length_cons]; omega)) h2 (fun h => h3 ((byteN b 95 (by decide)).2 h))
    clear hm
    have htl : (((List.takeWhile isPart (b :: r)).length : Int) = (r.length : Int) + 1) = ¬(((List.takeWhile isPart (b :: r)).length : Int) < (r.length : Int) + 1) := by apply propext; omega
    have hN := r_number b r hs
    have hW := r_word (b :: r) hs
    have hsh := shapeM_cons b r
    simp only [htl] at hsh hwd
    have hgo : signM (b :: r) = b :: r → shapeM (b :: r) = (5, 0) := fun h => by
      rw [hsh, if_neg, if_neg, if_pos h] <;> (intro h'; have := htw2 (hsg h); omega)
    clear htl htw2 hsg hx0
    repeat' (first | ((with_reducible refine wcm ?_); first | refine cF (r_signs) ?_ | refine cF (hh) ?_ | refine cF (hr) ?_ | refine cF (r_digit _) ?_ | refine cF (hN) ?_ | refine cF (hW) ?_) | refine dr ?_ | (refine ds ?_ ?_ <;> intro hb) | ((with_reducible refine dbm ?_); first | exact db_nil | refine dbc ?_ ?_) | ((with_reducible refine natle ?_); first | assumption | omega | (simp; omega)))
    all_goals push_cast at *
    all_goals try (simp [aggI, hgo, *]; done)
    have hd95 : isDigit b = false := by rw [isDigit_int, ‹(b.toNat : Int) = 95›]; rfl
    simp [aggI, *]
end Go.Plane
end
section
set_option linter.unusedVariables false
set_option linter.unusedSimpArgs false
set_option maxRecDepth 100000
set_option maxHeartbeats 2000000
namespace Go.Plane
open Go Go.Proofs
abbrev Tok.kt (t : Tok) : Int × List UInt8 := (t.k, t.s)
def sameK (a b : List Tok) : Bool := decide (a.map Tok.kt = b.map Tok.kt)
theorem sameK_len {a b : List Tok} (h : a.length ≠ b.length) : sameK a b = false := by
  unfold sameK
  rw [decide_eq_false_iff_not]
  intro he
  have := congrArg List.length he
  simp at this
  exact h this
theorem list_ext_take {α β : Type} (f : α → β) {a b : List α} {n : Nat} (hl : a.length = b.length) (hn : a.length ≤ n) (h : (a.take n).map f = (b.take n).map f) : a.map f = b.map f := by
  rwa [List.take_of_length_le hn, List.take_of_length_le (by omega)] at h
theorem map_take_succ {α β : Type} (f : α → β) {a b : List α} {i : Nat} {x y : α} (hx : a[i]? = some x) (hy : b[i]? = some y) (h : (a.take i).map f = (b.take i).map f) (he : f x = f y) :
    (a.take (i + 1)).map f = (b.take (i + 1)).map f := by
  rw [List.take_add_one, List.take_add_one, List.map_append, List.map_append, h, hx, hy]; simp [he]
theorem map_ne {α β : Type} (f : α → β) {a b : List α} {i : Nat} {x y : α} (hx : a[i]? = some x) (hy : b[i]? = some y) (he : f x ≠ f y) : a.map f ≠ b.map f := fun h => by
  have := congrArg (fun l => l[i]?) h
  simp [hx, hy] at this
  exact he this
theorem r_SameKinds (a b : List Tok) (ha : a.length ≤ 4294967296) (hb : b.length ≤ 4294967296) : F Γz 53 [.d (.slice (toksD a)), .d (.slice (toksD b))] (.d (.bool (sameK a b))) := by
  refine fn_of c53 rfl (by simp only [Env.of, List.zipIdx, List.map]; rfl) ?_
  have l1 := toksD_length a
  have l2 := toksD_length b
  by_cases hl : a.length = b.length
  case neg =>
    have hm := sameK_len hl
    repeat' (first | refine dr ?_ | (refine ds ?_ ?_ <;> intro hb) | ((with_reducible refine dbm ?_); first | exact db_nil | refine dbc ?_ ?_) | ((with_reducible refine natle ?_); first | assumption | omega | (simp; omega)))
    rw [hm]
    exact ⟨rfl, rfl⟩
  have hl' : (a.length : Int) = b.length := by omega
  repeat' (first | refine dr ?_ | (refine ds ?_ ?_ <;> intro hb) | ((with_reducible refine dbm ?_); first | exact db_nil | refine dbc ?_ ?_) | ((with_reducible refine natle ?_); first | assumption | omega | (simp; omega)))
  refine LP_for a (fun i _ => [(0, .d (.slice (toksD a))), (1, .d (.slice (toksD b))), (5, .d (.int .i64 i))]) (fun _ _ => []) (fun i (_ : Unit) => (a.take i).map Tok.kt = (b.take i).map Tok.kt) () rfl rfl (by simp) ?_ ?_
  · rintro i x _ hi hlt hI ih
    have hy := List.getElem?_eq_getElem (show i < b.length by omega)
    generalize b[i] = y at hy
    have r1 := toksD_at hi
    have r2 := toksD_at hy
    clear hl
    repeat' (first | refine dr ?_ | (refine ds ?_ ?_ <;> intro hb) | ((with_reducible refine dbm ?_); first | exact db_nil | refine dbc ?_ ?_) | ((with_reducible refine natle ?_); first | assumption | omega | (simp; omega)))
    all_goals first
      | (refine LP_at ?_ rfl (ih () (map_take_succ Tok.kt hi hy hI (by simp [Tok.kt, *])))
         (first | (simp [Env.shr, Env.get, PV.exp, PV.ids, PV.ids.idsL]; done) | simp [Env.shr, Env.get, PV.exp, PV.ids, PV.ids.idsL, *]))
      | (have : sameK a b = false := decide_eq_false (map_ne Tok.kt hi hy (by simp [Tok.kt, *]))
         simp [this])
  · rintro _ hI
    have : sameK a b = true := decide_eq_true (list_ext_take Tok.kt hl (Nat.le_refl _) hI)
    repeat' (first | refine dr ?_ | (refine ds ?_ ?_ <;> intro hb) | ((with_reducible refine dbm ?_); first | exact db_nil | refine dbc ?_ ?_) | ((with_reducible refine natle ?_); first | assumption | omega | (simp; omega)))
    simp [this]
theorem r_SameTokens (a b : List Tok) (ha : a.length ≤ 4294967296) (hb : b.length ≤ 4294967296) : F Γz 11 [.d (.slice (toksD a)), .d (.slice (toksD b))] (.d (.bool (decide (a = b)))) := by
  refine fn_of c11 rfl (by simp only [Env.of, List.zipIdx, List.map]; rfl) ?_
  have l1 := toksD_length a
  have l2 := toksD_length b
  by_cases hl : a.length = b.length
  case neg =>
    have hm : decide (a = b) = false := decide_eq_false (fun h => hl (by rw [h]))
    repeat' (first | refine dr ?_ | (refine ds ?_ ?_ <;> intro hb) | ((with_reducible refine dbm ?_); first | exact db_nil | refine dbc ?_ ?_) | ((with_reducible refine natle ?_); first | assumption | omega | (simp; omega)))
    rw [hm]
    exact ⟨rfl, rfl⟩
  have hl' : (a.length : Int) = b.length := by omega
  repeat' (first | refine dr ?_ | (refine ds ?_ ?_ <;> intro hb) | ((with_reducible refine dbm ?_); first | exact db_nil | refine dbc ?_ ?_) | ((with_reducible refine natle ?_); first | assumption | omega | (simp; omega)))
  refine LP_for a (fun i _ => [(0, .d (.slice (toksD a))), (1, .d (.slice (toksD b))), (5, .d (.int .i64 i))]) (fun _ _ => []) (fun i (_ : Unit) => (a.take i).map id = (b.take i).map id) () rfl rfl (by simp) ?_ ?_
  · rintro i x _ hi hlt hI ih
    have hy := List.getElem?_eq_getElem (show i < b.length by omega)
    generalize b[i] = y at hy
    have r1 := toksD_at hi
    have r2 := toksD_at hy
    have hxy : (x.k == y.k && (x.s == y.s && (x.l == y.l && x.c == y.c))) = decide (x = y) := by
      rw [Bool.eq_iff_iff]; cases x; cases y; simp
    clear hl
    repeat' (first | refine dr ?_ | (refine ds ?_ ?_ <;> intro hb) | ((with_reducible refine dbm ?_); first | exact db_nil | refine dbc ?_ ?_) | ((with_reducible refine natle ?_); first | assumption | omega | (simp; omega)))
    all_goals first
      | (refine LP_at ?_ rfl (ih () (map_take_succ id hi hy hI (by simpa using ‹x = y›)))
         (first | (simp [Env.shr, Env.get, PV.exp, PV.ids, PV.ids.idsL]; done) | simp [Env.shr, Env.get, PV.exp, PV.ids, PV.ids.idsL, *]))
      | (have : decide (a = b) = false := decide_eq_false (fun h => map_ne id hi hy (by simpa using ‹¬x = y›) (by rw [h]))
         simp [this])
  · rintro _ hI
    have : decide (a = b) = true := decide_eq_true (by have := list_ext_take id hl (Nat.le_refl _) hI; simpa using this)
    repeat' (first | refine dr ?_ | (refine ds ?_ ?_ <;> intro hb) | ((with_reducible refine dbm ?_); first | exact db_nil | refine dbc ?_ ?_) | ((with_reducible refine natle ?_); first | assumption | omega | (simp; omega)))
    simp [this]
end Go.Plane
end
section
set_option linter.unusedVariables false
set_option linter.unusedSimpArgs false
set_option maxRecDepth 100000
set_option maxHeartbeats 2000000
namespace Go.Plane
open Go Go.Proofs
theorem splitL_none (c : UInt8) : ∀ (u : List UInt8), (∀ b ∈ u, b ≠ c) → splitL c u = [u]
  | [], _ => rfl
  | b :: u, h => by
    have ih := splitL_none c u (fun x hx => h x (by simp [hx]))
    simp [splitL, h b (by simp), ih]
theorem splitL_cut (c : UInt8) : ∀ (u v : List UInt8), (∀ b ∈ u, b ≠ c) → splitL c (u ++ c :: v) = u :: splitL c v
  | [], v, _ => by simp [splitL]
  | b :: u, v, h => by
    have ih := splitL_cut c u v (fun x hx => h x (by simp [hx]))
    simp [splitL, h b (by simp), ih]
theorem drop_cut {s : List UInt8} {m i : Nat} {b : UInt8} (hm : m ≤ i) (h : s[i]? = some b) : s.drop m = (s.take i).drop m ++ b :: s.drop (i + 1) := by
  have hi := (List.getElem?_eq_some_iff.1 h).1
  have : s.drop i = b :: s.drop (i + 1) := by
    rw [List.drop_eq_getElem_cons hi]
    rw [show s[i] = b from (List.getElem?_eq_some_iff.1 h).2]
  rw [← this, List.drop_take]
  conv => lhs; rw [← List.take_append_drop (i - m) (s.drop m)]
  rw [List.drop_drop, show m + (i - m) = i by omega]
theorem strsD_append (a b : List (List UInt8)) : strsD (a ++ b) = strsD a ++ strsD b := by simp [strsD]
theorem r_lines (s : List UInt8) (hs : s.length ≤ 1000000000) : F Γz 38 [.d (.str s)] (.d (.slice (strsD (splitL 10 s)))) := by
  refine fn_of c38 rfl (by simp only [Env.of, List.zipIdx, List.map]; rfl) ?_
  repeat' (first | refine dr ?_ | (refine ds ?_ ?_ <;> intro hb) | ((with_reducible refine dbm ?_); first | exact db_nil | refine dbc ?_ ?_) | ((with_reducible refine natle ?_); first | assumption | omega | (simp; omega)))
  refine LP_for s (fun i (a : Nat × List (List UInt8)) => [(0, .d (.str s)), (3, .lref 0 (strsD a.2).length), (4, .d (.int .i64 a.1)), (5, .d (.int .i64 i))]) (fun _ a => [.lst (9, 1) (strsD a.2)])
    (fun i a => a.1 ≤ i ∧ a.2.length ≤ i ∧ a.2 ++ splitL 10 (s.drop a.1) = splitL 10 s ∧ ∀ b ∈ (s.take i).drop a.1, b ≠ 10) (0, []) rfl rfl ⟨Nat.le_refl _, by simp, by simp, by simp⟩ ?_ ?_
  · rintro i b ⟨m, out⟩ hx hlt ⟨h1, h2, h3, h4⟩ ih
    simp only at h1 h2 h3 h4
    have l1 := strsD_length out
    repeat' (first | refine dr ?_ | (refine ds ?_ ?_ <;> intro hb) | ((with_reducible refine dbm ?_); first | exact db_nil | refine dbc ?_ ?_) | ((with_reducible refine natle ?_); first | assumption | omega | (simp; omega)))
    · have hb10 : b = 10 := (byteN b 10 (by decide)).1 ‹_›
      refine LP_at ?_ ?_ (ih (i + 1, out ++ [(s.take i).drop m]) ⟨Nat.le_refl _, by simp; omega, ?_, by simp⟩)
      · simp [Env.shr, Env.get, PV.exp, PV.ids, PV.ids.idsL, strsD_append, strsD]
      · simp [shrink, Ent.exp, strsD_append]; rfl
      · rw [drop_cut h1 hx, hb10, splitL_cut 10 _ _ h4] at h3
        rw [← h3]; simp
    · refine LP_at ?_ ?_ (ih (m, out) ⟨by simp only; omega, by simp only; omega, h3, fun y hy => ?_⟩)
      · simp [Env.shr, Env.get, PV.exp, PV.ids, PV.ids.idsL, l1]
      · simp [shrink, Ent.exp]
      · rw [List.take_add_one, List.drop_append, List.mem_append, hx] at hy
        rcases hy with hy | hy
        · exact h4 y hy
        · have := List.mem_of_mem_drop hy
          simp at this
          subst this
          intro h
          exact absurd ((byteN y 10 (by decide)).2 h) ‹_›
  · rintro ⟨m, out⟩ ⟨h1, h2, h3, h4⟩
    simp only at h1 h2 h3 h4
    have l1 := strsD_length out
    rw [List.take_length] at h4
    rw [splitL_none 10 _ h4] at h3
    repeat' (first | refine dr ?_ | (refine ds ?_ ?_ <;> intro hb) | ((with_reducible refine dbm ?_); first | exact db_nil | refine dbc ?_ ?_) | ((with_reducible refine natle ?_); first | assumption | omega | (simp; omega)))
    rw [← h3]
    simp [strsD_append, strsD, List.take_of_length_le]
end Go.Plane
end
section
set_option linter.unusedVariables false
set_option linter.unusedSimpArgs false
set_option maxRecDepth 100000
set_option maxHeartbeats 2000000
namespace Go.Plane
open Go Go.Proofs
/-- A place, moved behind bytes. -/
def advM : Int × Int → List UInt8 → Int × Int
  | p, [] => p
  | p, b :: r => if b = 10 then advM (p.1 + 1, 1) r else advM (p.1, p.2 + 1) r
theorem advM_append (p : Int × Int) (a b : List UInt8) : advM p (a ++ b) = advM (advM p a) b := by
  induction a generalizing p with
  | nil => rfl
  | cons x a ih => simp only [List.cons_append, advM]; split <;> exact ih _
theorem lastM_nil : lastM [] = -1 := by decide
theorem bang_at {l : List UInt8} {i : Nat} (h : i < l.length) : (⟨l.toArray⟩ : ByteArray).data[i]! = l[i] := by
  rw [getElem!_pos _ i (by simpa using h)]; simp
theorem lastIdx_snoc (s : List UInt8) (b : UInt8) : ∀ k, k ≤ s.length → Lib.lastIdx ⟨(s ++ [b]).toArray⟩ 10 k = Lib.lastIdx ⟨s.toArray⟩ 10 k
  | 0, _ => rfl
  | k + 1, h => by
    have e1 := bang_at (l := s ++ [b]) (i := k) (by simp; omega)
    have e2 := bang_at (l := s) (i := k) (by omega)
    rw [List.getElem_append_left (by omega)] at e1
    unfold Lib.lastIdx
    rw [e1, e2, lastIdx_snoc s b k (by omega)]
theorem lastM_snoc (s : List UInt8) (b : UInt8) : lastM (s ++ [b]) = if b = 10 then (s.length : Int) else lastM s := by
  have e1 := bang_at (l := s ++ [b]) (i := s.length) (by simp)
  simp at e1
  have hz : (⟨(s ++ [b]).toArray⟩ : ByteArray).size = s.length + 1 := by simp [ByteArray.size]
  have hz2 : (⟨s.toArray⟩ : ByteArray).size = s.length := by simp [ByteArray.size]
  unfold lastM Lib.lastIndexByte
  rw [hz, hz2]
  have hb : ((b.toNat : Int) = 10) ↔ b = 10 := byteN b 10 (by decide)
  by_cases h : b = 10
  · rw [if_pos h, Lib.lastIdx_hit]
    simp only [List.append_assoc] at *
    rw [bang_at (by simp)]; simp [hb.2 h]
  · rw [if_neg h, Lib.lastIdx_miss]
    · exact lastIdx_snoc s b _ (Nat.le_refl _)
    · rw [bang_at (by simp)]; simpa using fun h' => h (hb.1 h')
theorem snoc_ind {P : List UInt8 → Prop} (h0 : P []) (h1 : ∀ s b, P s → P (s ++ [b])) (s : List UInt8) : P s := by
  have : ∀ r : List UInt8, P r.reverse := by
    intro r
    induction r with
    | nil => exact h0
    | cons b r ih => rw [List.reverse_cons]; exact h1 _ _ ih
  have h := this s.reverse
  rwa [List.reverse_reverse] at h
theorem advM_eq (s : List UInt8) : advM (1, 1) s = (1 + (s.count 10 : Int), (s.length : Int) - lastM s) := by
  induction s using snoc_ind with
  | h0 => simp [advM, lastM_nil]
  | h1 s b ih =>
    rw [advM_append, ih, lastM_snoc]
    simp only [advM, List.count_append, List.length_append, List.length_singleton]
    by_cases h : b = 10
    · subst h; simp; omega
    · rw [if_neg h, if_neg h, List.count_singleton]
      simp [h]; omega
def placeAtM (s : List UInt8) (off : Nat) : Int × Int := advM (1, 1) (s.take off)
theorem placeAtM_eq (s : List UInt8) (off : Nat) (h : off ≤ s.length) : placeAtM s off = (placeOfM s off).1 := by
  unfold placeAtM placeOfM
  rw [advM_eq, if_neg (by omega), List.length_take_of_le h]
  simp
theorem advM_bound (s : List UInt8) : 1 ≤ (advM (1, 1) s).1 ∧ (advM (1, 1) s).1 ≤ s.length + 1 ∧ 1 ≤ (advM (1, 1) s).2 ∧ (advM (1, 1) s).2 ≤ s.length + 1 := by
  rw [advM_eq]
  have h1 : s.count 10 ≤ s.length := List.count_le_length
  have h2 := lastM_le s
  have h3 : lastM s < s.length := by
    rcases Lib.lastIndexByte_spec ⟨s.toArray⟩ 10 with ⟨h, _⟩ | ⟨i, hi, h, _⟩
    · unfold lastM; rw [h]; omega
    · unfold lastM; rw [h]
      have : (⟨s.toArray⟩ : ByteArray).size = s.length := by simp [ByteArray.size]
      omega
  simp only
  omega
theorem r_PlaceAt (s : List UInt8) (n : Nat) (hs : s.length ≤ 4294967296) (hn : n ≤ s.length) : F Γz 37 [.d (.str s), .d (.int .i64 n)] (.agg [.int .i64 (placeAtM s n).1, .int .i64 (placeAtM s n).2]) := by
  refine fn_of c37 rfl (by simp only [Env.of, List.zipIdx, List.map]; rfl) ?_
  have htl : (s.take n).length = n := List.length_take_of_le hn
  repeat' (first | refine dr ?_ | (refine ds ?_ ?_ <;> intro hb) | ((with_reducible refine dbm ?_); first | exact db_nil | refine dbc ?_ ?_) | ((with_reducible refine natle ?_); first | assumption | omega | (simp; omega)))
  refine LP_for (s.take n) (fun i (_ : Int × Int) => [(0, .d (.str s)), (1, .d (.int .i64 n)), (4, .ptr 0 0), (5, .ptr 1 0), (6, .d (.int .i64 i))])
    (fun _ p => [.box 28 [.d (.int .i64 0), .d (.int .i64 0)], .box 28 [.d (.int .i64 p.1), .d (.int .i64 p.2)]]) (fun i p => advM (1, 1) ((s.take n).take i) = p) (1, 1) rfl rfl rfl ?_ ?_
  · rintro i b ⟨l, c⟩ hx hlt hI ih
    have hb := advM_bound ((s.take n).take i)
    rw [hI] at hb
    simp only at hb
    have hti : ((s.take n).take i).length = i := by simp; omega
    rw [hti] at hb
    have hx' : s[i]? = some b := by rw [List.getElem?_take] at hx; split at hx; exact hx; cases hx
    have hnext : advM (1, 1) ((s.take n).take (i + 1)) = if b = 10 then (l + 1, 1) else (l, c + 1) := by
      rw [List.take_add_one, hx, advM_append, hI]; rfl
    have hb10 : b = 10 ↔ (b.toNat : Int) = 10 := (byteN b 10 (by decide)).symm
    clear hI
    repeat' (first | refine dr ?_ | (refine ds ?_ ?_ <;> intro hb) | ((with_reducible refine dbm ?_); first | exact db_nil | refine dbc ?_ ?_) | ((with_reducible refine natle ?_); first | assumption | omega | (simp; omega)))
    · rw [if_pos (hb10.2 ‹_›)] at hnext
      refine LP_at ?_ ?_ (ih _ hnext)
      · (first | (simp [Env.shr, Env.get, PV.exp, PV.ids, PV.ids.idsL]; done) | simp [Env.shr, Env.get, PV.exp, PV.ids, PV.ids.idsL, *])
      · simp [shrink, Ent.exp, PV.exp, PV.ids]
    · rw [if_neg (fun h => absurd (hb10.1 h) ‹_›)] at hnext
      refine LP_at ?_ ?_ (ih _ hnext)
      · (first | (simp [Env.shr, Env.get, PV.exp, PV.ids, PV.ids.idsL]; done) | simp [Env.shr, Env.get, PV.exp, PV.ids, PV.ids.idsL, *])
      · simp [shrink, Ent.exp, PV.exp, PV.ids]
  · rintro ⟨l, c⟩ hI
    rw [List.take_length] at hI
    have hn' : ((s.take n).length : Int) = n := by omega
    repeat' (first | refine dr ?_ | (refine ds ?_ ?_ <;> intro hb) | ((with_reducible refine dbm ?_); first | exact db_nil | refine dbc ?_ ?_) | ((with_reducible refine natle ?_); first | assumption | omega | (simp; omega)))
    simp [placeAtM, hI]
end Go.Plane
end

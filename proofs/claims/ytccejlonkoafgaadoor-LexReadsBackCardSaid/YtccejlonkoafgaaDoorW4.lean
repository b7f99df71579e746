/- A part of the proof: the calculus over pure values, contracts of functions, and plain lemmas. -/
import Derived.Test.YtccejlonkoafgaaDoorW3
section
set_option linter.unusedVariables false
set_option linter.unusedSimpArgs false
namespace Go.Plane
open Go Go.Proofs

theorem strsD_length (l : List (List UInt8)) : (strsD l).length = l.length := by simp [strsD]
theorem strsD_at {l : List (List UInt8)} {n : Nat} {x : List UInt8} (h : l[n]? = some x) : (strsD l)[n]? = some [.str x] := by simp [strsD, h]

/-- The first place of a text among texts; -1 if there is none. -/
def idxOfL (x : List UInt8) : List (List UInt8) → Int
  | [] => -1
  | y :: l => if x = y then 0 else if idxOfL x l = -1 then -1 else idxOfL x l + 1
theorem idxOfL_at {x : List UInt8} : ∀ {l : List (List UInt8)} {n : Nat}, l[n]? = some x → (∀ y ∈ l.take n, x ≠ y) → idxOfL x l = n
  | [], n, h, _ => by simp at h
  | y :: l, 0, h, _ => by simp at h; subst h; simp [idxOfL]
  | y :: l, n + 1, h, hn => by
    have h1 : x ≠ y := hn y (by simp)
    have ih := idxOfL_at (l := l) (n := n) (by simpa using h) (fun z hz => hn z (by simp [hz]))
    simp only [idxOfL, if_neg h1, ih]
    rw [if_neg (by omega)]
    omega
theorem idxOfL_none {x : List UInt8} : ∀ {l : List (List UInt8)}, (∀ y ∈ l, x ≠ y) → idxOfL x l = -1
  | [], _ => rfl
  | y :: l, h => by simp [idxOfL, h y (by simp), idxOfL_none (l := l) (fun z hz => h z (by simp [hz]))]
theorem idxOfL_mem (x : List UInt8) (l : List (List UInt8)) : decide (0 ≤ idxOfL x l) = decide (x ∈ l) := by
  rw [decide_eq_decide]
  constructor
  · intro h
    apply Decidable.byContradiction
    intro hn
    rw [idxOfL_none (fun y hy he => hn (by rw [he]; exact hy))] at h
    omega
  · intro h
    induction l with
    | nil => cases h
    | cons y l ih =>
      unfold idxOfL
      split
      · omega
      · rename_i hne
        have := ih (by rcases List.mem_cons.1 h with h | h; exact absurd h hne; exact h)
        rw [if_neg (by omega)]
        omega

theorem f_Index (l : List (List UInt8)) (x : List UInt8) (hs : l.length ≤ 4294967296) : F Γd 116 [.d (.slice (strsD l)), .d (.str x)] (.d (.int .i64 (idxOfL x l))) := by
  refine fn_of c116 rfl (by simp only [Env.of, List.zipIdx, List.map]; rfl) ?_
  have hl := strsD_length l
  repeat' (first | refine dr ?_ | (refine ds ?_ ?_ <;> intro hb) | ((with_reducible refine dbm ?_); first | exact db_nil | refine dbc ?_ ?_) | ((with_reducible refine natle ?_); first | assumption | omega | (simp; omega)))
  refine LP_ind (α := Nat) (fun n => l.length - n) (fun n => [(0, .d (.slice (strsD l))), (1, .d (.str x)), (7, .d (.int .i64 l.length)), (8, .d (.int .i64 n))]) (fun _ => []) (fun n => n ≤ l.length ∧ ∀ y ∈ l.take n, x ≠ y) 0 rfl rfl ⟨Nat.zero_le _, by simp⟩ ?_
  rintro n ⟨h1, h2⟩ ih
  apply LP_go
  cases hx : l[n]? with
  | none =>
    have hn := List.getElem?_eq_none_iff.1 hx
    repeat' (first | refine dr ?_ | (refine ds ?_ ?_ <;> intro hb) | ((with_reducible refine dbm ?_); first | exact db_nil | refine dbc ?_ ?_) | ((with_reducible refine natle ?_); first | assumption | omega | (simp; omega)))
    obtain rfl : n = l.length := by omega
    rw [List.take_length] at h2
    rw [idxOfL_none h2]
    exact ⟨rfl, rfl⟩
  | some y =>
    have hn : n < l.length := (List.getElem?_eq_some_iff.1 hx).1
    have hy := strsD_at hx
    repeat' (first | refine dr ?_ | (refine ds ?_ ?_ <;> intro hb) | ((with_reducible refine dbm ?_); first | exact db_nil | refine dbc ?_ ?_) | ((with_reducible refine natle ?_); first | assumption | omega | (simp; omega)))
    · obtain rfl : x = y := hb
      rw [idxOfL_at hx h2]
      exact ⟨rfl, rfl⟩
    · refine LP_at ?_ rfl (ih (n + 1) ⟨hn, fun c hc => ?_⟩ (by omega))
      · (first | (simp [Env.shr, Env.get, PV.exp, PV.ids, PV.ids.idsL]; done) | simp [Env.shr, Env.get, PV.exp, PV.ids, PV.ids.idsL, *])
      · rw [List.take_add_one, List.mem_append] at hc
        rcases hc with hc | hc
        · exact h2 c hc
        · rw [hx] at hc; simp at hc; subst hc; exact hb
theorem f_Contains (l : List (List UInt8)) (x : List UInt8) (hs : l.length ≤ 4294967296) : F Γd 97 [.d (.slice (strsD l)), .d (.str x)] (.d (.bool (decide (x ∈ l)))) := by
  refine fn_of c97 rfl (by simp only [Env.of, List.zipIdx, List.map]; rfl) ?_
  have hc := f_Index l x hs
  repeat' (first | ((with_reducible refine wcm ?_); first | refine cF (hc) ?_) | refine dr ?_ | (refine ds ?_ ?_ <;> intro hb) | ((with_reducible refine dbm ?_); first | exact db_nil | refine dbc ?_ ?_) | ((with_reducible refine natle ?_); first | assumption | omega | (simp; omega)))
  rw [idxOfL_mem]
  exact ⟨rfl, rfl⟩
end Go.Plane
end
section
set_option linter.unusedVariables false
set_option linter.unusedSimpArgs false
set_option maxRecDepth 100000
namespace Go.Plane
open Go Go.Proofs

def keywords : List (List UInt8) := [[97, 110, 100], [97, 115], [97, 116, 116, 97, 99, 104, 101, 100], [99, 104, 101, 99, 107], [99, 108, 97, 115, 115], [99, 114, 101, 97, 116, 101], [100, 101, 102, 101, 114, 114, 101, 100], [100, 101, 116, 97, 99, 104, 97, 98, 108, 101], [100, 111], [101, 108, 115, 101], [101, 110, 100], [101, 110, 115, 117, 114, 101], [102, 101, 97, 116, 117, 114, 101], [102, 114, 111, 109], [105, 102], [105, 109, 112, 108, 105, 101, 115], [105, 110, 104, 101, 114, 105, 116], [105, 110, 118, 97, 114, 105, 97, 110, 116], [108, 111, 99, 97, 108], [108, 111, 111, 112], [110, 111, 116], [111, 108, 100], [111, 114], [112, 117, 116], [114, 97, 105, 115, 101], [114, 101, 100, 101, 102, 105, 110, 101], [114, 101, 110, 97, 109, 101], [114, 101, 113, 117, 105, 114, 101], [114, 101, 115, 99, 117, 101], [114, 101, 116, 114, 121], [115, 101, 108, 101, 99, 116], [115, 101, 112, 97, 114, 97, 116, 101], [116, 104, 101, 110], [117, 110, 100, 101, 102, 105, 110, 101], [117, 110, 116, 105, 108], [118, 97, 114, 105, 97, 110, 116], [119, 104, 101, 110]]
def specials : List (List UInt8) := [[84, 114, 117, 101], [70, 97, 108, 115, 101], [86, 111, 105, 100], [67, 117, 114, 114, 101, 110, 116], [82, 101, 115, 117, 108, 116]]
def lowers : List (List UInt8) := [[116, 114, 117, 101], [102, 97, 108, 115, 101], [118, 111, 105, 100], [99, 117, 114, 114, 101, 110, 116], [114, 101, 115, 117, 108, 116]]
theorem fields_keywords : Lib.fields [97, 110, 100, 32, 97, 115, 32, 97, 116, 116, 97, 99, 104, 101, 100, 32, 99, 104, 101, 99, 107, 32, 99, 108, 97, 115, 115, 32, 99, 114, 101, 97, 116, 101, 32, 100, 101, 102, 101, 114, 114, 101, 100, 32, 100, 101, 116, 97, 99, 104, 97, 98, 108, 101, 32, 100, 111, 32, 101, 108, 115, 101, 32, 101, 110, 100, 32, 101, 110, 115, 117, 114, 101, 32, 102, 101, 97, 116, 117, 114, 101, 32, 102, 114, 111, 109, 32, 105, 102, 32, 105, 109, 112, 108, 105, 101, 115, 32, 105, 110, 104, 101, 114, 105, 116, 32, 105, 110, 118, 97, 114, 105, 97, 110, 116, 32, 108, 111, 99, 97, 108, 32, 108, 111, 111, 112, 32, 110, 111, 116, 32, 111, 108, 100, 32, 111, 114, 32, 112, 117, 116, 32, 114, 97, 105, 115, 101, 32, 114, 101, 100, 101, 102, 105, 110, 101, 32, 114, 101, 110, 97, 109, 101, 32, 114, 101, 113, 117, 105, 114, 101, 32, 114, 101, 115, 99, 117, 101, 32, 114, 101, 116, 114, 121, 32, 115, 101, 108, 101, 99, 116, 32, 115, 101, 112, 97, 114, 97, 116, 101, 32, 116, 104, 101, 110, 32, 117, 110, 100, 101, 102, 105, 110, 101, 32, 117, 110, 116, 105, 108, 32, 118, 97, 114, 105, 97, 110, 116, 32, 119, 104, 101, 110] = keywords := by decide +kernel
theorem f_Keywords : F Γd 36 [] (.d (.slice (strsD keywords))) := by
  refine fn_of c36 rfl (by simp only [Env.of, List.zipIdx, List.map]; rfl) ?_
  have h := F_Fields [97, 110, 100, 32, 97, 115, 32, 97, 116, 116, 97, 99, 104, 101, 100, 32, 99, 104, 101, 99, 107, 32, 99, 108, 97, 115, 115, 32, 99, 114, 101, 97, 116, 101, 32, 100, 101, 102, 101, 114, 114, 101, 100, 32, 100, 101, 116, 97, 99, 104, 97, 98, 108, 101, 32, 100, 111, 32, 101, 108, 115, 101, 32, 101, 110, 100, 32, 101, 110, 115, 117, 114, 101, 32, 102, 101, 97, 116, 117, 114, 101, 32, 102, 114, 111, 109, 32, 105, 102, 32, 105, 109, 112, 108, 105, 101, 115, 32, 105, 110, 104, 101, 114, 105, 116, 32, 105, 110, 118, 97, 114, 105, 97, 110, 116, 32, 108, 111, 99, 97, 108, 32, 108, 111, 111, 112, 32, 110, 111, 116, 32, 111, 108, 100, 32, 111, 114, 32, 112, 117, 116, 32, 114, 97, 105, 115, 101, 32, 114, 101, 100, 101, 102, 105, 110, 101, 32, 114, 101, 110, 97, 109, 101, 32, 114, 101, 113, 117, 105, 114, 101, 32, 114, 101, 115, 99, 117, 101, 32, 114, 101, 116, 114, 121, 32, 115, 101, 108, 101, 99, 116, 32, 115, 101, 112, 97, 114, 97, 116, 101, 32, 116, 104, 101, 110, 32, 117, 110, 100, 101, 102, 105, 110, 101, 32, 117, 110, 116, 105, 108, 32, 118, 97, 114, 105, 97, 110, 116, 32, 119, 104, 101, 110] (by decide) (by decide) (by rw [fields_keywords]; decide) (by rw [fields_keywords]; decide)
  rw [fields_keywords] at h
  repeat' (first | ((with_reducible refine wcm ?_); first | refine cF (h) ?_) | refine dr ?_ | (refine ds ?_ ?_ <;> intro hb) | ((with_reducible refine dbm ?_); first | exact db_nil | refine dbc ?_ ?_) | ((with_reducible refine natle ?_); first | assumption | omega | (simp; omega)))
  exact ⟨rfl, rfl⟩
theorem f_word1 (b : UInt8) : F Γd 93 [.d (.int .u8 b.toNat)] (.d (.bool (isPart b && !isCapital b))) := by
  refine fn_of c93 rfl (by simp only [Env.of, List.zipIdx, List.map]; rfl) ?_
  repeat' (first | ((with_reducible refine wcm ?_); first | refine cF (f_within _) ?_ | refine cF (f_capital _) ?_) | refine dr ?_ | (refine ds ?_ ?_ <;> intro hb) | ((with_reducible refine dbm ?_); first | exact db_nil | refine dbc ?_ ?_) | ((with_reducible refine natle ?_); first | assumption | omega | (simp; omega)))
  all_goals simp [*]
theorem f_word2 (b : UInt8) : F Γd 95 [.d (.int .u8 b.toNat)] (.d (.bool (isPart b && !isSmall b))) := by
  refine fn_of c95 rfl (by simp only [Env.of, List.zipIdx, List.map]; rfl) ?_
  repeat' (first | ((with_reducible refine wcm ?_); first | refine cF (f_within _) ?_ | refine cF (f_small _) ?_) | refine dr ?_ | (refine ds ?_ ?_ <;> intro hb) | ((with_reducible refine dbm ?_); first | exact db_nil | refine dbc ?_ ?_) | ((with_reducible refine natle ?_); first | assumption | omega | (simp; omega)))
  all_goals simp [*]
/-- What a word is: its kind, or its error. -/
def wordM (s : List UInt8) : Int × Int :=
  if s ∈ keywords ∨ s ∈ specials then (3, 0)
  else if s ∈ lowers then (0, 4)
  else if s.all (fun b => isPart b && !isCapital b) = false ∧ s.all (fun b => isPart b && !isSmall b) = false then (0, 2)
  else if 20 < s.length then (0, 3)
  else if s.all (fun b => isPart b && !isCapital b) then (1, 0) else (2, 0)
def pairI (p : Int × Int) : PV := .tup [.d (.int .i64 p.1), .d (.int .i64 p.2)]
theorem f_word (s : List UInt8) (hs : s.length ≤ 4294967296) : F Γd 62 [.d (.str s)] (pairI (wordM s)) := by
  refine fn_of c62 rfl (by simp only [Env.of, List.zipIdx, List.map]; rfl) ?_
  repeat' (first | ((with_reducible refine wcm ?_); first | refine cF (f_only _ _ f_word1 s hs) ?_ | refine cF (f_only _ _ f_word2 s hs) ?_ | refine cF (f_Keywords) ?_ | refine cF (f_Contains keywords s (by decide)) ?_ | refine cF (f_Contains specials s (by decide)) ?_ | refine cF (f_Contains lowers s (by decide)) ?_) | refine dr ?_ | (refine ds ?_ ?_ <;> intro hb) | ((with_reducible refine dbm ?_); first | exact db_nil | refine dbc ?_ ?_) | ((with_reducible refine natle ?_); first | assumption | omega | (simp; omega)))
  all_goals (have hnat : ((20 : Int) < (s.length : Int)) ↔ 20 < s.length := by omega)
  all_goals (simp only [pairI, wordM, Bool.not_eq_true', Bool.not_eq_false', hnat] at *; first | contradiction | (exfalso; simp_all only [Bool.true_eq_false, Bool.false_eq_true]; done) | simp [*])
end Go.Plane
end
section
set_option linter.unusedVariables false
set_option linter.unusedSimpArgs false
set_option maxRecDepth 100000
namespace Go.Plane
open Go Go.Proofs
def signs : List (List UInt8) := [[58, 61], [47, 61], [60, 61], [62, 61], [47, 47], [61], [60], [62], [43], [45], [42], [37], [40], [41], [91], [93], [123], [125], [44], [59], [58], [46]]
theorem f_signs : F Γd 98 [] (.agg (signs.map D.str)) := by
  refine fn_of c98 rfl (by simp only [Env.of, List.zipIdx, List.map]; rfl) ?_
  repeat' (first | refine dr ?_ | (refine ds ?_ ?_ <;> intro hb) | ((with_reducible refine dbm ?_); first | exact db_nil | refine dbc ?_ ?_) | ((with_reducible refine natle ?_); first | assumption | omega | (simp; omega)))
  exact ⟨rfl, rfl⟩
def signM (s : List UInt8) : List UInt8 := (signs.find? fun x => x.isPrefixOf s).getD []
theorem find_at {α : Type} {p : α → Bool} : ∀ {l : List α} {n : Nat} {x : α}, l[n]? = some x → p x = true → (∀ y ∈ l.take n, p y = false) → l.find? p = some x
  | [], n, x, h, _, _ => by simp at h
  | y :: l, 0, x, h, hp, _ => by simp at h; subst h; simp [hp]
  | y :: l, n + 1, x, h, hp, hn => by
    rw [List.find?_cons, hn y (by simp)]
    exact find_at (n := n) (by simpa using h) hp (fun z hz => hn z (by simp [hz]))
theorem f_sign (s : List UInt8) : F Γd 63 [.d (.str s)] (.d (.str (signM s))) := by
  refine fn_of c63 rfl (by simp only [Env.of, List.zipIdx, List.map]; rfl) ?_
  repeat' (first | ((with_reducible refine wcm ?_); first | refine cF (f_signs) ?_) | refine dr ?_ | (refine ds ?_ ?_ <;> intro hb) | ((with_reducible refine dbm ?_); first | exact db_nil | refine dbc ?_ ?_) | ((with_reducible refine natle ?_); first | assumption | omega | (simp; omega)))
  refine LP_ind (α := Nat) (fun n => 22 - n) (fun n => [(0, .d (.str s)), (3, .d (.str [])), (6, .agg (signs.map D.str)), (7, .d (.int .i64 n))]) (fun _ => []) (fun n => n ≤ 22 ∧ ∀ y ∈ signs.take n, y.isPrefixOf s = false) 0 rfl rfl ⟨Nat.zero_le _, by simp⟩ ?_
  rintro n ⟨h1, h2⟩ ih
  apply LP_go
  cases hx : signs[n]? with
  | none =>
    have hn : n = 22 := by have := List.getElem?_eq_none_iff.1 hx; simp [signs] at this; omega
    have hlt : decide ((n : Int) < 22) = false := by simp; omega
    repeat' (first | refine dr ?_ | (refine ds ?_ ?_ <;> intro hb) | ((with_reducible refine dbm ?_); first | exact db_nil | refine dbc ?_ ?_) | ((with_reducible refine natle ?_); first | assumption | omega | (simp; omega)))
    subst hn
    have : signM s = [] := by
      unfold signM
      rw [List.find?_eq_none.2]
      · rfl
      · intro x hx'
        rw [h2 x (by rw [List.take_of_length_le (by simp [signs])]; exact hx')]
        simp
    rw [this]
    exact ⟨rfl, rfl⟩
  | some y =>
    have hn : n < 22 := by have := (List.getElem?_eq_some_iff.1 hx).1; simpa [signs] using this
    have hlt : decide ((n : Int) < 22) = true := by simp; omega
    have hlt2 : ((n : Int) < ((22 : Nat) : Int)) = True := by simp; omega
    have hy : (signs.map D.str)[n]? = some (.str y) := by simp [hx]
    have hc := F_HasPrefix s y
    cases hp : y.isPrefixOf s with
    | true =>
      rw [hp] at hc
      repeat' (first | ((with_reducible refine wcm ?_); first | refine cF (hc) ?_) | refine dr ?_ | (refine ds ?_ ?_ <;> intro hb) | ((with_reducible refine dbm ?_); first | exact db_nil | refine dbc ?_ ?_) | ((with_reducible refine natle ?_); first | assumption | omega | (simp; omega)))
      have : signM s = y := by unfold signM; rw [find_at hx hp h2]; rfl
      rw [this]
      exact ⟨rfl, rfl⟩
    | false =>
      rw [hp] at hc
      repeat' (first | ((with_reducible refine wcm ?_); first | refine cF (hc) ?_) | refine dr ?_ | (refine ds ?_ ?_ <;> intro hb) | ((with_reducible refine dbm ?_); first | exact db_nil | refine dbc ?_ ?_) | ((with_reducible refine natle ?_); first | assumption | omega | (simp; omega)))
      refine LP_at ?_ rfl (ih (n + 1) ⟨hn, fun c hc' => ?_⟩ (by omega))
      · (first | (simp [Env.shr, Env.get, PV.exp, PV.ids, PV.ids.idsL]; done) | simp [Env.shr, Env.get, PV.exp, PV.ids, PV.ids.idsL, *])
      · rw [List.take_add_one, List.mem_append] at hc'
        rcases hc' with hc' | hc'
        · exact h2 c hc'
        · rw [hx] at hc'; simp at hc'; subst hc'; exact hp
end Go.Plane
end
section
set_option linter.unusedVariables false
set_option linter.unusedSimpArgs false
set_option maxRecDepth 100000
set_option maxHeartbeats 1000000
namespace Go.Plane
open Go Go.Proofs
def valM : Int → List UInt8 → Int × Int
  | n, [] => (n, 0)
  | n, b :: l => if 1099511627776 < 10 * n + ((b.toNat : Int) - 48) then (0, 3) else valM (10 * n + ((b.toNat : Int) - 48)) l
def numberM (s : List UInt8) : Int × Int :=
  if s.all isDigit = false ∨ (1 < s.length ∧ s[0]? = some 48) then (0, 2) else valM 0 s
theorem digit_bounds {b : UInt8} (h : isDigit b = true) : 48 ≤ (b.toNat : Int) ∧ (b.toNat : Int) ≤ 57 := by
  rw [isDigit_int] at h; simpa using h
theorem byte48 {c : UInt8} : (c.toNat : Int) = 48 ↔ c = 48 := by
  have := byte_eq c 48 (by decide)
  rw [Bool.eq_iff_iff, beq_iff_eq, beq_iff_eq] at this
  exact this
theorem f_number (s : List UInt8) (hs : s.length ≤ 4294967296) : F Γd 61 [.d (.str s)] (pairI (numberM s)) := by
  refine fn_of c61 rfl (by simp only [Env.of, List.zipIdx, List.map]; rfl) ?_
  have ho := f_only _ _ f_digit s hs
  cases hd : s.all isDigit with
  | false =>
    rw [hd] at ho
    repeat' (first | ((with_reducible refine wcm ?_); first | refine cF (ho) ?_) | refine dr ?_ | (refine ds ?_ ?_ <;> intro hb) | ((with_reducible refine dbm ?_); first | exact db_nil | refine dbc ?_ ?_) | ((with_reducible refine natle ?_); first | assumption | omega | (simp; omega)))
    simp [numberM, hd, pairI]
  | true =>
    rw [hd] at ho
    have hall := List.all_eq_true.1 hd
    have h0 : ∀ c, s[0]? = some c → (¬(1 < s.length ∧ s[0]? = some 48) ↔ ¬(1 < s.length ∧ (c.toNat : Int) = 48)) := fun c hc => by rw [hc, byte48]; simp
    cases hx0 : s[0]? with
    | none =>
      have hl0 : s = [] := by cases s with | nil => rfl | cons _ _ => simp at hx0
      subst hl0
      repeat' (first | ((with_reducible refine wcm ?_); first | refine cF (ho) ?_) | refine dr ?_ | (refine ds ?_ ?_ <;> intro hb) | ((with_reducible refine dbm ?_); first | exact db_nil | refine dbc ?_ ?_) | ((with_reducible refine natle ?_); first | assumption | omega | (simp; omega)))
      apply LP_go
      repeat' (first | refine dr ?_ | (refine ds ?_ ?_ <;> intro hb) | ((with_reducible refine dbm ?_); first | exact db_nil | refine dbc ?_ ?_) | ((with_reducible refine natle ?_); first | assumption | omega | (simp; omega)))
      simp [numberM, valM, pairI]
    | some c =>
      have h0 := h0 c hx0
      repeat' (first | ((with_reducible refine wcm ?_); first | refine cF (ho) ?_) | refine dr ?_ | (refine ds ?_ ?_ <;> intro hb) | ((with_reducible refine dbm ?_); first | exact db_nil | refine dbc ?_ ?_) | ((with_reducible refine natle ?_); first | assumption | omega | (simp; omega)))
      · have hN : numberM s = (0, 2) := by
          unfold numberM
          rw [if_pos (.inr ⟨by omega, by rw [hx0, byte48.1 ‹(c.toNat : Int) = 48›]⟩)]
        simp [hN, pairI]
      ·
        refine LP_ind (α := Nat × Int) (fun a => s.length - a.1) (fun a => [(0, .d (.str s)), (4, .d (.int .i64 a.2)), (20, .d (.int .i64 s.length)), (21, .d (.int .i64 a.1))]) (fun _ => [])
          (fun a => a.1 ≤ s.length ∧ 0 ≤ a.2 ∧ a.2 ≤ 1099511627776 ∧ valM a.2 (s.drop a.1) = valM 0 s) (0, 0) rfl rfl ⟨Nat.zero_le _, by decide, by decide, rfl⟩ ?_
        rintro ⟨i, n⟩ ⟨h1, h2, h3, h4⟩ ih
        simp only at h1 h2 h3 h4
        have hgood : ¬(1 < s.length ∧ s[0]? = some 48) := h0.2 (by omega)
        have hN : numberM s = valM 0 s := by
          unfold numberM
          rw [if_neg]
          rintro (h | h)
          · rw [hd] at h; cases h
          · exact hgood h
        apply LP_go
        cases hx : s[i]? with
        | none =>
          have hn : i = s.length := by have := List.getElem?_eq_none_iff.1 hx; omega
          subst hn
          repeat' (first | refine dr ?_ | (refine ds ?_ ?_ <;> intro hb) | ((with_reducible refine dbm ?_); first | exact db_nil | refine dbc ?_ ?_) | ((with_reducible refine natle ?_); first | assumption | omega | (simp; omega)))
          rw [List.drop_length] at h4
          simp [hN, pairI, ← h4, valM]
        | some b =>
          have hn : i < s.length := (List.getElem?_eq_some_iff.1 hx).1
          obtain ⟨hb1, hb2⟩ := digit_bounds (hall b (List.mem_of_getElem? hx))
          have hv : valM n (s.drop i) = if 1099511627776 < 10 * n + ((b.toNat : Int) - 48) then (0, 3) else valM (10 * n + ((b.toNat : Int) - 48)) (s.drop (i + 1)) := by
            rw [List.drop_eq_getElem_cons hn, valM]
            rw [show s[i] = b from by have := List.getElem?_eq_getElem hn; rw [hx] at this; exact (Option.some.inj this).symm]
          repeat' (first | refine dr ?_ | (refine ds ?_ ?_ <;> intro hb) | ((with_reducible refine dbm ?_); first | exact db_nil | refine dbc ?_ ?_) | ((with_reducible refine natle ?_); first | assumption | omega | (simp; omega)))
          · rw [if_pos (by assumption)] at hv
            simp [hN, pairI, ← h4, hv]
          · rw [if_neg (by assumption)] at hv
            refine LP_at ?_ rfl (ih (i + 1, 10 * n + ((b.toNat : Int) - 48)) ⟨hn, by simp only; omega, by simp only; omega, by simp only; rw [← hv]; exact h4⟩ (by simp only; omega))
            (first | (simp [Env.shr, Env.get, PV.exp, PV.ids, PV.ids.idsL]; done) | simp [Env.shr, Env.get, PV.exp, PV.ids, PV.ids.idsL, *])
      ·
        refine LP_ind (α := Nat × Int) (fun a => s.length - a.1) (fun a => [(0, .d (.str s)), (4, .d (.int .i64 a.2)), (20, .d (.int .i64 s.length)), (21, .d (.int .i64 a.1))]) (fun _ => [])
          (fun a => a.1 ≤ s.length ∧ 0 ≤ a.2 ∧ a.2 ≤ 1099511627776 ∧ valM a.2 (s.drop a.1) = valM 0 s) (0, 0) rfl rfl ⟨Nat.zero_le _, by decide, by decide, rfl⟩ ?_
        rintro ⟨i, n⟩ ⟨h1, h2, h3, h4⟩ ih
        simp only at h1 h2 h3 h4
        have hgood : ¬(1 < s.length ∧ s[0]? = some 48) := h0.2 (by omega)
        have hN : numberM s = valM 0 s := by
          unfold numberM
          rw [if_neg]
          rintro (h | h)
          · rw [hd] at h; cases h
          · exact hgood h
        apply LP_go
        cases hx : s[i]? with
        | none =>
          have hn : i = s.length := by have := List.getElem?_eq_none_iff.1 hx; omega
          subst hn
          repeat' (first | refine dr ?_ | (refine ds ?_ ?_ <;> intro hb) | ((with_reducible refine dbm ?_); first | exact db_nil | refine dbc ?_ ?_) | ((with_reducible refine natle ?_); first | assumption | omega | (simp; omega)))
          rw [List.drop_length] at h4
          simp [hN, pairI, ← h4, valM]
        | some b =>
          have hn : i < s.length := (List.getElem?_eq_some_iff.1 hx).1
          obtain ⟨hb1, hb2⟩ := digit_bounds (hall b (List.mem_of_getElem? hx))
          have hv : valM n (s.drop i) = if 1099511627776 < 10 * n + ((b.toNat : Int) - 48) then (0, 3) else valM (10 * n + ((b.toNat : Int) - 48)) (s.drop (i + 1)) := by
            rw [List.drop_eq_getElem_cons hn, valM]
            rw [show s[i] = b from by have := List.getElem?_eq_getElem hn; rw [hx] at this; exact (Option.some.inj this).symm]
          repeat' (first | refine dr ?_ | (refine ds ?_ ?_ <;> intro hb) | ((with_reducible refine dbm ?_); first | exact db_nil | refine dbc ?_ ?_) | ((with_reducible refine natle ?_); first | assumption | omega | (simp; omega)))
          · rw [if_pos (by assumption)] at hv
            simp [hN, pairI, ← h4, hv]
          · rw [if_neg (by assumption)] at hv
            refine LP_at ?_ rfl (ih (i + 1, 10 * n + ((b.toNat : Int) - 48)) ⟨hn, by simp only; omega, by simp only; omega, by simp only; rw [← hv]; exact h4⟩ (by simp only; omega))
            (first | (simp [Env.shr, Env.get, PV.exp, PV.ids, PV.ids.idsL]; done) | simp [Env.shr, Env.get, PV.exp, PV.ids, PV.ids.idsL, *])
end Go.Plane
end
section
set_option linter.unusedVariables false
set_option linter.unusedSimpArgs false
set_option maxRecDepth 100000
namespace Go.Plane
open Go Go.Proofs
/-- What a text is: the kind of its token, or the error. -/
def shapeM (s : List UInt8) : Int × Int :=
  match s with
  | [] => (0, 2)
  | b :: _ =>
    if (s.takeWhile isPart).length = s.length ∧ isDigit b then (if (numberM s).2 ≠ 0 then (0, (numberM s).2) else (4, 0))
    else if (s.takeWhile isPart).length = s.length ∧ b ≠ 95 then wordM s
    else if signM s = s then (5, 0) else (0, 2)
theorem shapeM_cons (b : UInt8) (r : List UInt8) : shapeM (b :: r) =
    if ((List.takeWhile isPart (b :: r)).length : Int) = (r.length : Int) + 1 ∧ isDigit b then (if (numberM (b :: r)).2 ≠ 0 then (0, (numberM (b :: r)).2) else (4, 0))
    else if ((List.takeWhile isPart (b :: r)).length : Int) = (r.length : Int) + 1 ∧ (b.toNat : Int) ≠ 95 then wordM (b :: r)
    else if signM (b :: r) = b :: r then (5, 0) else (0, 2) := by
  have h1 : ((List.takeWhile isPart (b :: r)).length = (b :: r).length) = (((List.takeWhile isPart (b :: r)).length : Int) = (r.length : Int) + 1) := by
    rw [List.length_cons (a := b)]; apply propext; omega
  have h2 : (b ≠ 95) = ((b.toNat : Int) ≠ 95) := by
    have := byte_eq b 95 (by decide)
    rw [Bool.eq_iff_iff, beq_iff_eq, beq_iff_eq] at this
    apply propext
    exact not_congr this.symm
  unfold shapeM
  simp only [h1, h2]
theorem f_Shape (s : List UInt8) (hs : s.length ≤ 4294967296) : F Γd 32 [.d (.str s)] (pairI (shapeM s)) := by
  refine fn_of c32 rfl (by simp only [Env.of, List.zipIdx, List.map]; rfl) ?_
  cases s with
  | nil =>
    have h : (([] : List UInt8) == []) = true := rfl
    repeat' (first | refine dr ?_ | (refine ds ?_ ?_ <;> intro hb) | ((with_reducible refine dbm ?_); first | exact db_nil | refine dbc ?_ ?_) | ((with_reducible refine natle ?_); first | assumption | omega | (simp; omega)))
    exact ⟨rfl, rfl⟩
  | cons b r =>
    have h : ((b :: r) == []) = false := rfl
    repeat' (first | ((with_reducible refine wcm ?_); first | refine cF (f_run _ hs) ?_ | refine cF (f_digit _) ?_ | refine cF (f_number _ hs) ?_ | refine cF (f_word _ hs) ?_ | refine cF (f_sign _) ?_) | refine dr ?_ | (refine ds ?_ ?_ <;> intro hb) | ((with_reducible refine dbm ?_); first | exact db_nil | refine dbc ?_ ?_) | ((with_reducible refine natle ?_); first | assumption | omega | (simp; omega)))
    all_goals (push_cast at *; simp [shapeM_cons, pairI, *])
end Go.Plane
end
section
set_option linter.unusedVariables false
set_option linter.unusedSimpArgs false
set_option maxRecDepth 100000
namespace Go.Plane
open Go Go.Proofs
def valueM (s : List UInt8) : Int × Int :=
  if (shapeM s).2 ≠ 0 then (0, (shapeM s).2) else if (shapeM s).1 ≠ 4 then (0, 2) else numberM s
theorem f_Value (s : List UInt8) (hs : s.length ≤ 4294967296) : F Γd 34 [.d (.str s)] (pairI (valueM s)) := by
  refine fn_of c34 rfl (by simp only [Env.of, List.zipIdx, List.map]; rfl) ?_
  repeat' (first | ((with_reducible refine wcm ?_); first | refine cF (f_Shape _ hs) ?_ | refine cF (f_number _ hs) ?_) | refine dr ?_ | (refine ds ?_ ?_ <;> intro hb) | ((with_reducible refine dbm ?_); first | exact db_nil | refine dbc ?_ ?_) | ((with_reducible refine natle ?_); first | assumption | omega | (simp; omega)))
  all_goals simp_all [valueM, pairI]
end Go.Plane
end
section
set_option linter.unusedVariables false
set_option linter.unusedSimpArgs false
set_option maxRecDepth 100000
set_option maxHeartbeats 1000000
namespace Go.Plane
open Go Go.Proofs
def lastM (s : List UInt8) : Int := Lib.lastIndexByte ⟨s.toArray⟩ 10
def placeV (p : Int × Int) (e : Int) : PV := .tup [.agg [.int .i64 p.1, .int .i64 p.2], .d (.int .i64 e)]
def placeOfM (s : List UInt8) (off : Int) : (Int × Int) × Int :=
  if off < 0 ∨ (s.length : Int) < off then ((0, 0), 1) else ((1 + (s.take off.toNat).count 10, off - lastM (s.take off.toNat)), 0)
theorem lastM_le (s : List UInt8) : -1 ≤ lastM s ∧ lastM s ≤ s.length := by
  rcases Lib.lastIndexByte_spec ⟨s.toArray⟩ 10 with ⟨h, _⟩ | ⟨i, hi, h, _⟩
  · unfold lastM; rw [h]; omega
  · unfold lastM; rw [h]
    have : (⟨s.toArray⟩ : ByteArray).size = s.length := by simp [ByteArray.size]
    omega
theorem f_PlaceOf (s : List UInt8) (off : Int) (hs : s.length ≤ 4294967296) : F Γd 16 [.d (.str s), .d (.int .i64 off)] (placeV (placeOfM s off).1 (placeOfM s off).2) := by
  refine fn_of c16 rfl (by simp only [Env.of, List.zipIdx, List.map]; rfl) ?_
  have hlen : (s.take off.toNat).length ≤ s.length := by simp; omega
  have hcnt : (s.take off.toNat).count 10 ≤ (s.take off.toNat).length := List.count_le_length
  have hl1 := lastM_le (s.take off.toNat)
  have hL : F Γd 43 [.d (.str (s.take off.toNat)), .d (.int .u8 10)] (.d (.int .i64 (lastM (s.take off.toNat)))) := F_LastIndexByte (s.take off.toNat) 10 (by omega)
  repeat' (first | ((with_reducible refine wcm ?_); first | refine cF (F_Count _ 10) ?_ | refine cF (hL) ?_) | refine dr ?_ | (refine ds ?_ ?_ <;> intro hb) | ((with_reducible refine dbm ?_); first | exact db_nil | refine dbc ?_ ?_) | ((with_reducible refine natle ?_); first | assumption | omega | (simp; omega)))
  all_goals simp [placeOfM, placeV, *]
end Go.Plane
end
section
set_option linter.unusedVariables false
set_option linter.unusedSimpArgs false
set_option maxRecDepth 100000
set_option maxHeartbeats 1000000
namespace Go.Plane
open Go Go.Proofs
def textV (s : List UInt8) (e : Int) : PV := .tup [.d (.str s), .d (.int .i64 e)]
def editM (s : List UInt8) (a b : Int) (x : List UInt8) : List UInt8 × Int :=
  if a < 0 ∨ b < a ∨ (s.length : Int) < b then ([], 1)
  else if 20000 < (s.length : Int) - (b - a) + x.length then ([], 3)
  else (s.take a.toNat ++ x ++ s.drop b.toNat, 0)
theorem f_Edit (s : List UInt8) (a b : Int) (x : List UInt8) (hs : s.length ≤ 4294967296) (hx : x.length ≤ 4294967296) :
    F Γd 18 [.d (.str s), .agg [.int .i64 a, .int .i64 b, .str x]] (textV (editM s a b x).1 (editM s a b x).2) := by
  refine fn_of c18 rfl (by simp only [Env.of, List.zipIdx, List.map]; rfl) ?_
  have e1 : (s.take a.toNat).length ≤ s.length := by simp; omega
  have e2 : (s.take a.toNat ++ x).length ≤ s.length + x.length := by simp; omega
  have e3 : (s.drop b.toNat).length ≤ s.length := by simp
  repeat' (first | refine dr ?_ | (refine ds ?_ ?_ <;> intro hb) | ((with_reducible refine dbm ?_); first | exact db_nil | refine dbc ?_ ?_) | ((with_reducible refine natle ?_); first | assumption | omega | (simp; omega)))
  all_goals simp [editM, textV, *]
end Go.Plane
end
section
set_option linter.unusedVariables false
set_option linter.unusedSimpArgs false
set_option maxRecDepth 100000
set_option maxHeartbeats 1000000
namespace Go.Plane
open Go Go.Proofs
/-- The bytes of lines, with their line feeds. -/
def bytesM (l : List (List UInt8)) : Int := (l.map fun x => (x.length : Int) + 1).sum
theorem bytesM_nonneg : ∀ l, 0 ≤ bytesM l
  | [] => by simp [bytesM]
  | x :: l => by have := bytesM_nonneg l; simp only [bytesM, List.map_cons, List.sum_cons] at *; omega
theorem bytesM_append (a b : List (List UInt8)) : bytesM (a ++ b) = bytesM a + bytesM b := by simp [bytesM]
theorem bytesM_take_succ {l : List (List UInt8)} {i : Nat} {x : List UInt8} (h : l[i]? = some x) : bytesM (l.take (i + 1)) = bytesM (l.take i) + (x.length + 1) := by
  rw [List.take_add_one, bytesM_append, h]; simp [bytesM]
theorem bytesM_split (c : UInt8) : ∀ l, bytesM (splitL c l) = l.length + 1
  | [] => by simp [splitL, bytesM]
  | b :: l => by
    have ih := bytesM_split c l
    unfold splitL
    split
    · simp only [bytesM, List.map_cons, List.sum_cons, List.length_nil, List.length_cons] at *; omega
    · split
      · rename_i x r he
        rw [he] at ih
        simp only [bytesM, List.map_cons, List.sum_cons, List.length_cons] at *; omega
      · rename_i he; exact absurd he (splitL_ne c l)
theorem bytesM_take_le (l : List (List UInt8)) (n : Nat) : bytesM (l.take n) ≤ bytesM l := by
  have h : bytesM l = bytesM (l.take n) + bytesM (l.drop n) := by rw [← bytesM_append, List.take_append_drop]
  have := bytesM_nonneg (l.drop n)
  omega
def offsetM (s : List UInt8) (l c : Int) : Int × Int :=
  if l < 1 ∨ ((splitL 10 s).length : Int) < l ∨ c < 1 ∨ (((splitL 10 s)[(l - 1).toNat]?.getD []).length : Int) + 1 < c then (0, 1)
  else (c - 1 + bytesM ((splitL 10 s).take (l - 1).toNat), 0)
theorem strsD_len (l : List (List UInt8)) : ∀ y ∈ strsD l, y.length = 1 := by simp [strsD]
theorem strsD_take (l : List (List UInt8)) (n : Nat) : (strsD l).take n = strsD (l.take n) := by simp [strsD]
theorem strsD_drop (l : List (List UInt8)) (n : Nat) : (strsD l).drop n = strsD (l.drop n) := by simp [strsD]
theorem f_Offset (s : List UInt8) (l c : Int) (hs : s.length ≤ 2147483648) : F Γd 14 [.d (.str s), .agg [.int .i64 l, .int .i64 c]] (pairI (offsetM s l c)) := by
  refine fn_of c14 rfl (by simp only [Env.of, List.zipIdx, List.map]; rfl) ?_
  have hS := F_Split s 10 (by omega)
  have hlen := strsD_length (splitL 10 s)
  have hall := strsD_len (splitL 10 s)
  have hcnt : (splitL 10 s).length ≤ s.length + 1 := by rw [splitL_length]; have := List.count_le_length (a := (10 : UInt8)) (l := s); omega
  cases hx : (splitL 10 s)[(l - 1).toNat]? with
  | none =>
    have hn := List.getElem?_eq_none_iff.1 hx
    have hm : offsetM s l c = (0, 1) := by unfold offsetM; rw [if_pos]; omega
    repeat' (first | ((with_reducible refine wcm ?_); first | refine cF (hS) ?_) | refine dr ?_ | (refine ds ?_ ?_ <;> intro hb) | ((with_reducible refine dbm ?_); first | exact db_nil | refine dbc ?_ ?_) | ((with_reducible refine natle ?_); first | assumption | omega | (simp; omega)))
    all_goals simp [hm, pairI]
  | some x =>
    have hn := (List.getElem?_eq_some_iff.1 hx).1
    have hy := strsD_at hx
    have hxl : x.length ≤ s.length := splitL_le 10 s x (List.mem_of_getElem? hx)
    by_cases hc : l < 1 ∨ ((splitL 10 s).length : Int) < l ∨ c < 1 ∨ (x.length : Int) + 1 < c
    · have hm : offsetM s l c = (0, 1) := by unfold offsetM; rw [hx, Option.getD_some, if_pos hc]
      repeat' (first | ((with_reducible refine wcm ?_); first | refine cF (hS) ?_) | refine dr ?_ | (refine ds ?_ ?_ <;> intro hb) | ((with_reducible refine dbm ?_); first | exact db_nil | refine dbc ?_ ?_) | ((with_reducible refine natle ?_); first | assumption | omega | (simp; omega)))
      all_goals simp [hm, pairI]
    have hok : offsetM s l c = (c - 1 + bytesM ((splitL 10 s).take (l - 1).toNat), 0) := by unfold offsetM; rw [hx, Option.getD_some, if_neg hc]
    repeat' (first | ((with_reducible refine wcm ?_); first | refine cF (hS) ?_) | refine dr ?_ | (refine ds ?_ ?_ <;> intro hb) | ((with_reducible refine dbm ?_); first | exact db_nil | refine dbc ?_ ?_) | ((with_reducible refine natle ?_); first | assumption | omega | (simp; omega)))
    have hle := bytesM_take_le (splitL 10 s)
    have hsp := bytesM_split 10 s
    refine LP_for ((splitL 10 s).take (l - 1).toNat) (fun i n => [(7, .d (.int .i64 n)), (47, .d (.slice ((strsD (splitL 10 s)).take (l - 1).toNat))), (48, .d (.int .i64 ((strsD (splitL 10 s)).take (l - 1).toNat).length)), (49, .d (.int .i64 i))])
      (fun _ _ => [.box 23 [.d (.int .i64 l), .d (.int .i64 c)]]) (fun i n => n = c - 1 + bytesM (((splitL 10 s).take (l - 1).toNat).take i)) (c - 1) rfl rfl (by simp [bytesM]) ?_ ?_
    · rintro i y n hi hlt rfl ih
      have hy := strsD_at hi
      rw [← strsD_take] at hy
      have hb := bytesM_take_le ((splitL 10 s).take (l - 1).toNat) i
      have hb2 := hle (l - 1).toNat
      have hb3 := bytesM_nonneg (((splitL 10 s).take (l - 1).toNat).take i)
      have hyl : y.length ≤ s.length := splitL_le 10 s y (List.mem_of_mem_take (List.mem_of_getElem? hi))
      have hl2 : ((strsD (splitL 10 s)).take (l - 1).toNat).length = ((splitL 10 s).take (l - 1).toNat).length := by simp [strsD]
      have hl3 : ((splitL 10 s).take (l - 1).toNat).length ≤ (splitL 10 s).length := by simp; omega
      repeat' (first | refine dr ?_ | (refine ds ?_ ?_ <;> intro hb) | ((with_reducible refine dbm ?_); first | exact db_nil | refine dbc ?_ ?_) | ((with_reducible refine natle ?_); first | assumption | omega | (simp; omega)))
      refine LP_at ?_ rfl (ih _ rfl)
      rw [bytesM_take_succ hi]
      (first | (simp [Env.shr, Env.get, PV.exp, PV.ids, PV.ids.idsL]; done) | simp [Env.shr, Env.get, PV.exp, PV.ids, PV.ids.idsL, *])
      omega
    · rintro n rfl
      have hl2 : ((strsD (splitL 10 s)).take (l - 1).toNat).length = ((splitL 10 s).take (l - 1).toNat).length := by simp [strsD]
      repeat' (first | refine dr ?_ | (refine ds ?_ ?_ <;> intro hb) | ((with_reducible refine dbm ?_); first | exact db_nil | refine dbc ?_ ?_) | ((with_reducible refine natle ?_); first | assumption | omega | (simp; omega)))
      rw [List.take_length]
      simp [hok, pairI]
end Go.Plane
end
section
set_option linter.unusedVariables false
set_option linter.unusedSimpArgs false
set_option maxRecDepth 100000
set_option maxHeartbeats 1000000
namespace Go.Plane
open Go Go.Proofs
/-- A token: its kind, text, line and column. -/
structure Tok where
  k : Int
  s : List UInt8
  l : Int
  c : Int
  deriving DecidableEq
abbrev Tok.row (t : Tok) : List D := [.int .i64 t.k, .str t.s, .int .i64 t.l, .int .i64 t.c]
def toksD (l : List Tok) : List (List D) := l.map Tok.row
theorem toksD_length (l : List Tok) : (toksD l).length = l.length := by simp [toksD]
theorem toksD_at {l : List Tok} {n : Nat} {x : Tok} (h : l[n]? = some x) : (toksD l)[n]? = some [.int .i64 x.k, .str x.s, .int .i64 x.l, .int .i64 x.c] := by simp [toksD, h]
theorem toksD_len (l : List Tok) : ∀ y ∈ toksD l, y.length = 4 := by simp [toksD]
theorem toksD_append (a b : List Tok) : toksD (a ++ b) = toksD a ++ toksD b := by simp [toksD]

def cmpM (a b : Int) : Int := if a < b then -1 else if b < a then 1 else 0
def compareM (l c l' c' : Int) : Int := if cmpM l l' ≠ 0 then cmpM l l' else cmpM c c'
theorem f_Or (a b : Int) : F Γd 82 [.d (.slice [[.int .i64 a], [.int .i64 b]])] (.d (.int .i64 (if a ≠ 0 then a else b))) := by
  refine fn_of c82 rfl (by simp only [Env.of, List.zipIdx, List.map]; rfl) ?_
  repeat' (first | refine dr ?_ | (refine ds ?_ ?_ <;> intro hb) | ((with_reducible refine dbm ?_); first | exact db_nil | refine dbc ?_ ?_) | ((with_reducible refine natle ?_); first | assumption | omega | (simp; omega)))
  apply LP_go
  repeat' (first | refine dr ?_ | (refine ds ?_ ?_ <;> intro hb) | ((with_reducible refine dbm ?_); first | exact db_nil | refine dbc ?_ ?_) | ((with_reducible refine natle ?_); first | assumption | omega | (simp; omega)))
  · simp_all
  refine LP_at (env' := [(3, .d (.int .i64 0)), (6, .d (.slice [[.int .i64 a], [.int .i64 b]])), (7, .d (.int .i64 2)), (8, .d (.int .i64 1))]) ?_ rfl ?_
  · (first | (simp [Env.shr, Env.get, PV.exp, PV.ids, PV.ids.idsL]; done) | simp [Env.shr, Env.get, PV.exp, PV.ids, PV.ids.idsL, *])
  apply LP_go
  repeat' (first | refine dr ?_ | (refine ds ?_ ?_ <;> intro hb) | ((with_reducible refine dbm ?_); first | exact db_nil | refine dbc ?_ ?_) | ((with_reducible refine natle ?_); first | assumption | omega | (simp; omega)))
  · simp_all
  refine LP_at (env' := [(3, .d (.int .i64 0)), (6, .d (.slice [[.int .i64 a], [.int .i64 b]])), (7, .d (.int .i64 2)), (8, .d (.int .i64 2))]) ?_ rfl ?_
  · (first | (simp [Env.shr, Env.get, PV.exp, PV.ids, PV.ids.idsL]; done) | simp [Env.shr, Env.get, PV.exp, PV.ids, PV.ids.idsL, *])
  apply LP_go
  repeat' (first | refine dr ?_ | (refine ds ?_ ?_ <;> intro hb) | ((with_reducible refine dbm ?_); first | exact db_nil | refine dbc ?_ ?_) | ((with_reducible refine natle ?_); first | assumption | omega | (simp; omega)))
  simp_all
theorem f_compare (l c l' c' : Int) : F Γd 51 [.agg [.int .i64 l, .int .i64 c], .agg [.int .i64 l', .int .i64 c']] (.d (.int .i64 (compareM l c l' c'))) := by
  refine fn_of c51 rfl (by simp only [Env.of, List.zipIdx, List.map]; rfl) ?_
  repeat' (first | ((with_reducible refine wcm ?_); first | refine cF (F_Compare _ _) ?_ | refine cF (f_Or _ _) ?_) | refine dr ?_ | (refine ds ?_ ?_ <;> intro hb) | ((with_reducible refine dbm ?_); first | exact db_nil | refine dbc ?_ ?_) | ((with_reducible refine natle ?_); first | assumption | omega | (simp; omega)))
  exact ⟨rfl, rfl⟩
def sameTokM (a b : Tok) : Bool := a.k == b.k && a.s == b.s
theorem f_equal (a b : Tok) : F Γd 72 [.agg a.row, .agg b.row] (.d (.bool (sameTokM a b))) := by
  refine fn_of c72 rfl (by simp only [Env.of, List.zipIdx, List.map]; rfl) ?_
  repeat' (first | refine dr ?_ | (refine ds ?_ ?_ <;> intro hb) | ((with_reducible refine dbm ?_); first | exact db_nil | refine dbc ?_ ?_) | ((with_reducible refine natle ?_); first | assumption | omega | (simp; omega)))
  all_goals simp [sameTokM, *]
theorem f_token (k : Int) : F Γd 49 [.d (.int .i64 k)] (.d (.bool (k != 6))) := by
  refine fn_of c49 rfl (by simp only [Env.of, List.zipIdx, List.map]; rfl) ?_
  repeat' (first | refine dr ?_ | (refine ds ?_ ?_ <;> intro hb) | ((with_reducible refine dbm ?_); first | exact db_nil | refine dbc ?_ ?_) | ((with_reducible refine natle ?_); first | assumption | omega | (simp; omega)))
  all_goals exact ⟨rfl, rfl⟩
theorem f_note (k : Int) : F Γd 58 [.d (.int .i64 k)] (.d (.bool (k == 6))) := by
  refine fn_of c58 rfl (by simp only [Env.of, List.zipIdx, List.map]; rfl) ?_
  repeat' (first | refine dr ?_ | (refine ds ?_ ?_ <;> intro hb) | ((with_reducible refine dbm ?_); first | exact db_nil | refine dbc ?_ ?_) | ((with_reducible refine natle ?_); first | assumption | omega | (simp; omega)))
  all_goals exact ⟨rfl, rfl⟩
end Go.Plane
end
section
set_option linter.unusedVariables false
set_option linter.unusedSimpArgs false
set_option maxRecDepth 100000
set_option maxHeartbeats 1000000
namespace Go.Plane
open Go Go.Proofs
theorem r_digit (b : UInt8) : F Γd 67 [.d (.int .u8 b.toNat)] (.d (.bool (isDigit b))) := by
  refine fn_of c67 rfl (by simp only [Env.of, List.zipIdx, List.map]; rfl) ?_
  repeat' (first | refine dr ?_ | (refine ds ?_ ?_ <;> intro hb) | ((with_reducible refine dbm ?_); first | exact db_nil | refine dbc ?_ ?_) | ((with_reducible refine natle ?_); first | assumption | omega | (simp; omega)))
  all_goals simp [isDigit_int, *]
theorem r_small (b : UInt8) : F Γd 99 [.d (.int .u8 b.toNat)] (.d (.bool (isSmall b))) := by
  refine fn_of c99 rfl (by simp only [Env.of, List.zipIdx, List.map]; rfl) ?_
  repeat' (first | refine dr ?_ | (refine ds ?_ ?_ <;> intro hb) | ((with_reducible refine dbm ?_); first | exact db_nil | refine dbc ?_ ?_) | ((with_reducible refine natle ?_); first | assumption | omega | (simp; omega)))
  all_goals simp [isSmall_int, *]
theorem r_capital (b : UInt8) : F Γd 100 [.d (.int .u8 b.toNat)] (.d (.bool (isCapital b))) := by
  refine fn_of c100 rfl (by simp only [Env.of, List.zipIdx, List.map]; rfl) ?_
  repeat' (first | refine dr ?_ | (refine ds ?_ ?_ <;> intro hb) | ((with_reducible refine dbm ?_); first | exact db_nil | refine dbc ?_ ?_) | ((with_reducible refine natle ?_); first | assumption | omega | (simp; omega)))
  all_goals simp [isCapital_int, *]
theorem r_part (b : UInt8) : F Γd 90 [.d (.int .u8 b.toNat)] (.d (.bool (isPart b))) := by
  refine fn_of c90 rfl (by simp only [Env.of, List.zipIdx, List.map]; rfl) ?_
  repeat' (first | ((with_reducible refine wcm ?_); first | refine cF (r_small _) ?_ | refine cF (r_capital _) ?_ | refine cF (r_digit _) ?_) | refine dr ?_ | (refine ds ?_ ?_ <;> intro hb) | ((with_reducible refine dbm ?_); first | exact db_nil | refine dbc ?_ ?_) | ((with_reducible refine natle ?_); first | assumption | omega | (simp; omega)))
  all_goals simp [isPart_int, *]
theorem r_has (l : List (List UInt8)) (s : List UInt8) (hl : l.length ≤ 4294967296) : F Γd 64 [.d (.slice (strsD l)), .d (.str s)] (.d (.bool (decide (s ∈ l)))) := by
  refine fn_of c64 rfl (by simp only [Env.of, List.zipIdx, List.map]; rfl) ?_
  have hlen := strsD_length l
  repeat' (first | refine dr ?_ | (refine ds ?_ ?_ <;> intro hb) | ((with_reducible refine dbm ?_); first | exact db_nil | refine dbc ?_ ?_) | ((with_reducible refine natle ?_); first | assumption | omega | (simp; omega)))
  refine LP_for l (fun i _ => [(0, .d (.slice (strsD l))), (1, .d (.str s)), (5, .d (.int .i64 i))]) (fun _ _ => []) (fun i (_ : Unit) => ∀ x ∈ l.take i, x ≠ s) () rfl rfl (by simp) ?_ ?_
  · rintro i x _ hi hlt hI ih
    have hy := strsD_at hi
    repeat' (first | refine dr ?_ | (refine ds ?_ ?_ <;> intro hb) | ((with_reducible refine dbm ?_); first | exact db_nil | refine dbc ?_ ?_) | ((with_reducible refine natle ?_); first | assumption | omega | (simp; omega)))
    · have : s ∈ l := by rw [← ‹x = s›]; exact List.mem_of_getElem? hi
      simp [this]
    · refine LP_at ?_ rfl (ih () fun y hy => ?_)
      · (first | (simp [Env.shr, Env.get, PV.exp, PV.ids, PV.ids.idsL]; done) | simp [Env.shr, Env.get, PV.exp, PV.ids, PV.ids.idsL, *])
      · rw [List.take_add_one, List.mem_append, hi] at hy
        rcases hy with hy | hy
        · exact hI y hy
        · simp at hy; subst hy; assumption
  · rintro _ hI
    repeat' (first | refine dr ?_ | (refine ds ?_ ?_ <;> intro hb) | ((with_reducible refine dbm ?_); first | exact db_nil | refine dbc ?_ ?_) | ((with_reducible refine natle ?_); first | assumption | omega | (simp; omega)))
    rw [List.take_length] at hI
    have : s ∉ l := fun h => hI s h rfl
    simp [this]
theorem r_Keywords : F Γd 37 [] (.d (.slice (strsD keywords))) := by
  refine fn_of c37 rfl (by simp only [Env.of, List.zipIdx, List.map]; rfl) ?_
  repeat' (first | refine dr ?_ | (refine ds ?_ ?_ <;> intro hb) | ((with_reducible refine dbm ?_); first | exact db_nil | refine dbc ?_ ?_) | ((with_reducible refine natle ?_); first | assumption | omega | (simp; omega)))
  exact ⟨rfl, rfl⟩
theorem r_signs : F Γd 65 [] (.d (.slice (strsD signs))) := by
  refine fn_of c65 rfl (by simp only [Env.of, List.zipIdx, List.map]; rfl) ?_
  repeat' (first | refine dr ?_ | (refine ds ?_ ?_ <;> intro hb) | ((with_reducible refine dbm ?_); first | exact db_nil | refine dbc ?_ ?_) | ((with_reducible refine natle ?_); first | assumption | omega | (simp; omega)))
  exact ⟨rfl, rfl⟩
theorem r_run (s : List UInt8) (n : Nat) (hs : s.length ≤ 4294967296) (hn : n ≤ s.length) : F Γd 66 [.d (.str s), .d (.int .i64 n)] (.d (.int .i64 ((s.drop n).takeWhile isPart).length)) := by
  refine fn_of c66 rfl (by simp only [Env.of, List.zipIdx, List.map]; rfl) ?_
  repeat' (first | refine dr ?_ | (refine ds ?_ ?_ <;> intro hb) | ((with_reducible refine dbm ?_); first | exact db_nil | refine dbc ?_ ?_) | ((with_reducible refine natle ?_); first | assumption | omega | (simp; omega)))
  refine LP_for (s.drop n) (fun i _ => [(0, .d (.str s)), (1, .d (.int .i64 n)), (5, .d (.int .i64 i))]) (fun _ _ => []) (fun i (_ : Unit) => ∀ b ∈ (s.drop n).take i, isPart b = true) () rfl rfl (by simp) ?_ ?_
  · rintro i b _ hi hlt hI ih
    have hx : s[n + i]? = some b := by rw [List.getElem?_drop] at hi; exact hi
    have hx' : s[((n : Int) + (i : Int)).toNat]? = some b := by rw [show ((n : Int) + (i : Int)).toNat = n + i by omega]; exact hx
    have hlt' : n + i < s.length := (List.getElem?_eq_some_iff.1 hx).1
    repeat' (first | ((with_reducible refine wcm ?_); first | refine cF (r_part _) ?_) | refine dr ?_ | (refine ds ?_ ?_ <;> intro hb) | ((with_reducible refine dbm ?_); first | exact db_nil | refine dbc ?_ ?_) | ((with_reducible refine natle ?_); first | assumption | omega | (simp; omega)))
    · refine LP_at ?_ rfl (ih () fun c hc => ?_)
      · (first | (simp [Env.shr, Env.get, PV.exp, PV.ids, PV.ids.idsL]; done) | simp [Env.shr, Env.get, PV.exp, PV.ids, PV.ids.idsL, *])
      · rw [List.take_add_one, List.mem_append, hi] at hc
        rcases hc with hc | hc
        · exact hI c hc
        · simp at hc; subst hc; assumption
    · rw [takeWhile_at hI (by omega) (fun c hc => by rw [hi] at hc; cases hc; assumption)]
      simp
  · rintro _ hI
    have hl : (s.drop n).length = s.length - n := List.length_drop
    repeat' (first | refine dr ?_ | (refine ds ?_ ?_ <;> intro hb) | ((with_reducible refine dbm ?_); first | exact db_nil | refine dbc ?_ ?_) | ((with_reducible refine natle ?_); first | assumption | omega | (simp; omega)))
    rw [takeWhile_at (n := (s.drop n).length) hI (by omega) (fun c hc => by simp at hc)]
    simp
end Go.Plane
end
section
set_option linter.unusedVariables false
set_option linter.unusedSimpArgs false
set_option maxRecDepth 100000
set_option maxHeartbeats 2000000
namespace Go.Plane
open Go Go.Proofs
def aggI (p : Int × Int) : PV := .agg [.int .i64 p.1, .int .i64 p.2]
def wordR (s : List UInt8) : Int × Int :=
  if s ∈ keywords ∨ s ∈ specials then (3, 0) else if s ∈ lowers then (0, 4)
  else if s.any isSmall = true ∧ s.any isCapital = true then (0, 2) else if (20 : Int) < s.length then (0, 3) else if s.any isSmall = true then (1, 0) else (2, 0)
theorem any_take_succ {p : UInt8 → Bool} {s : List UInt8} {i : Nat} {b : UInt8} (h : s[i]? = some b) : (s.take (i + 1)).any p = ((s.take i).any p || p b) := by
  rw [List.take_add_one, List.any_append, h]; simp
theorem r_word (s : List UInt8) (hs : s.length ≤ 4294967296) : F Γd 69 [.d (.str s)] (aggI (wordR s)) := by
  refine fn_of c69 rfl (by simp only [Env.of, List.zipIdx, List.map]; rfl) ?_
  have h1 : F Γd 64 [.d (.slice (strsD keywords)), .d (.str s)] _ := r_has keywords s (by decide)
  have h2 : F Γd 64 [.d (.slice [[.str [84, 114, 117, 101]], [.str [70, 97, 108, 115, 101]], [.str [86, 111, 105, 100]], [.str [67, 117, 114, 114, 101, 110, 116]], [.str [82, 101, 115, 117, 108, 116]]]), .d (.str s)] _ := r_has specials s (by decide)
  have h3 : F Γd 64 [.d (.slice [[.str [116, 114, 117, 101]], [.str [102, 97, 108, 115, 101]], [.str [118, 111, 105, 100]], [.str [99, 117, 114, 114, 101, 110, 116]], [.str [114, 101, 115, 117, 108, 116]]]), .d (.str s)] _ := r_has lowers s (by decide)
  repeat' (first | ((with_reducible refine wcm ?_); first | refine cF (r_Keywords) ?_ | refine cF (h1) ?_ | refine cF (h2) ?_ | refine cF (h3) ?_) | refine dr ?_ | (refine ds ?_ ?_ <;> intro hb) | ((with_reducible refine dbm ?_); first | exact db_nil | refine dbc ?_ ?_) | ((with_reducible refine natle ?_); first | assumption | omega | (simp; omega)))
  all_goals try (simp [wordR, aggI, *]; done)
  refine LP_for s (fun i (a : Bool × Bool) => [(0, .d (.str s)), (2, .ptr 0 0), (3, .d (.bool a.1)), (4, .d (.bool a.2)), (5, .d (.int .i64 i))]) (fun _ _ => [.box 73 [.d (.int .i64 0), .d (.int .i64 0)]])
    (fun i a => a = ((s.take i).any isSmall, (s.take i).any isCapital)) (false, false) rfl rfl (by simp) ?_ ?_
  · rintro i b ⟨lo, hi⟩ hx hlt hI ih
    simp only [Prod.mk.injEq] at hI
    have t1 := any_take_succ (p := isSmall) hx
    have t2 := any_take_succ (p := isCapital) hx
    rw [← hI.1] at t1
    rw [← hI.2] at t2
    clear hI h1 h2 h3
    repeat' (first | ((with_reducible refine wcm ?_); first | refine cF (r_small _) ?_ | refine cF (r_capital _) ?_) | refine dr ?_ | (refine ds ?_ ?_ <;> intro hb) | ((with_reducible refine dbm ?_); first | exact db_nil | refine dbc ?_ ?_) | ((with_reducible refine natle ?_); first | assumption | omega | (simp; omega)))
    all_goals
      refine LP_at ?_ rfl (ih _ rfl)
      (first | (simp [Env.shr, Env.get, PV.exp, PV.ids, PV.ids.idsL]; done) | simp [Env.shr, Env.get, PV.exp, PV.ids, PV.ids.idsL, *])
  · rintro ⟨lo, hi⟩ hI
    simp only [Prod.mk.injEq, List.take_length] at hI
    obtain ⟨rfl, rfl⟩ := hI
    clear h1 h2 h3
    repeat' (first | refine dr ?_ | (refine ds ?_ ?_ <;> intro hb) | ((with_reducible refine dbm ?_); first | exact db_nil | refine dbc ?_ ?_) | ((with_reducible refine natle ?_); first | assumption | omega | (simp; omega)))
    all_goals simp [wordR, aggI, *]
end Go.Plane
end
section
set_option linter.unusedVariables false
set_option linter.unusedSimpArgs false
set_option maxRecDepth 100000
set_option maxHeartbeats 2000000
namespace Go.Plane
open Go Go.Proofs
theorem r_number (c : UInt8) (r : List UInt8) (hs : (c :: r).length ≤ 4294967296) : F Γd 68 [.d (.str (c :: r))] (aggI (numberM (c :: r))) := by
  refine fn_of c68 rfl (by simp only [Env.of, List.zipIdx, List.map]; rfl) ?_
  have hx0 : (c :: r)[0]? = some c := rfl
  have hl1 : 1 ≤ (c :: r).length := by simp
  have hbad : (c :: r)[0]? = some 48 ↔ (c.toNat : Int) = 48 := by rw [hx0, Option.some.injEq]; exact (byteN c 48 (by decide)).symm
  generalize hS : c :: r = s at *
  repeat' (first | refine dr ?_ | (refine ds ?_ ?_ <;> intro hb) | ((with_reducible refine dbm ?_); first | exact db_nil | refine dbc ?_ ?_) | ((with_reducible refine natle ?_); first | assumption | omega | (simp; omega)))
  refine LP_for s (fun i _ => [(0, .d (.str s)), (2, .ptr 0 0), (3, .d (.int .i64 i))]) (fun _ _ => [.box 33 [.d (.int .i64 0), .d (.int .i64 0)]])
    (fun i (_ : Unit) => ∀ b ∈ s.take i, isDigit b = true) () rfl rfl (by simp) ?_ ?_
  · rintro i b _ hx hlt hI ih
    repeat' (first | ((with_reducible refine wcm ?_); first | refine cF (r_digit _) ?_) | refine dr ?_ | (refine ds ?_ ?_ <;> intro hb) | ((with_reducible refine dbm ?_); first | exact db_nil | refine dbc ?_ ?_) | ((with_reducible refine natle ?_); first | assumption | omega | (simp; omega)))
    · have : s.all isDigit = false := by
        rw [Bool.eq_false_iff]
        intro h
        have := List.all_eq_true.1 h b (List.mem_of_getElem? hx)
        simp_all
      have hm : numberM s = (0, 2) := by unfold numberM; rw [if_pos (.inl this)]
      simp [hm, aggI]
    · refine LP_at ?_ rfl (ih () fun y hy => ?_)
      · (first | (simp [Env.shr, Env.get, PV.exp, PV.ids, PV.ids.idsL]; done) | simp [Env.shr, Env.get, PV.exp, PV.ids, PV.ids.idsL, *])
      · rw [List.take_add_one, List.mem_append, hx] at hy
        rcases hy with hy | hy
        · exact hI y hy
        · simp at hy; subst hy; assumption
  rintro _ hI
  rw [List.take_length] at hI
  have hd : s.all isDigit = true := List.all_eq_true.2 hI
  by_cases hg : (c.toNat : Int) = 48 ∧ (1 : Int) < s.length
  · have hm : numberM s = (0, 2) := by unfold numberM; rw [if_pos (.inr ⟨by omega, hbad.2 hg.1⟩)]
    obtain ⟨hg1, hg2⟩ := hg
    clear hS hbad
    repeat' (first | refine dr ?_ | (refine ds ?_ ?_ <;> intro hb) | ((with_reducible refine dbm ?_); first | exact db_nil | refine dbc ?_ ?_) | ((with_reducible refine natle ?_); first | assumption | omega | (simp; omega)))
    simp [hm, aggI]
  have hm : numberM s = valM 0 s := by
    unfold numberM
    rw [if_neg]
    rintro (h | h)
    · rw [hd] at h; cases h
    · exact hg ⟨hbad.1 h.2, by omega⟩
  have hgood : (c.toNat : Int) ≠ 48 ∨ ¬(1 : Int) < s.length := by
    rcases Decidable.em ((c.toNat : Int) = 48) with h | h
    · exact .inr fun h2 => hg ⟨h, h2⟩
    · exact .inl h
  clear hS hbad hg
  repeat' (first | refine dr ?_ | (refine ds ?_ ?_ <;> intro hb) | ((with_reducible refine dbm ?_); first | exact db_nil | refine dbc ?_ ?_) | ((with_reducible refine natle ?_); first | assumption | omega | (simp; omega)))
  · refine LP_for s (fun i (n : Int) => [(0, .d (.str s)), (2, .ptr 0 0), (4, .d (.int .i64 n)), (5, .d (.int .i64 i))]) (fun _ _ => [.box 33 [.d (.int .i64 0), .d (.int .i64 0)]])
      (fun i n => 0 ≤ n ∧ n ≤ 1099511627776 ∧ valM n (s.drop i) = valM 0 s) 0 rfl rfl ⟨by decide, by decide, rfl⟩ ?_ ?_
    · rintro i b n hx hlt ⟨h2, h3, h4⟩ ih
      obtain ⟨hb1, hb2⟩ := digit_bounds (hI b (List.mem_of_getElem? hx))
      have hv : valM n (s.drop i) = if 1099511627776 < 10 * n + ((b.toNat : Int) - 48) then (0, 3) else valM (10 * n + ((b.toNat : Int) - 48)) (s.drop (i + 1)) := by
        rw [List.drop_eq_getElem_cons hlt, valM]
        rw [show s[i] = b from by have := List.getElem?_eq_getElem hlt; rw [hx] at this; exact (Option.some.inj this).symm]
      have e1 : 10 * n + (b.toNat : Int) - 48 = 10 * n + ((b.toNat : Int) - 48) := by omega
      have hz : b.toNat < 256 := UInt8.toNat_lt b
      repeat' (first | refine dr ?_ | (refine ds ?_ ?_ <;> intro hb) | ((with_reducible refine dbm ?_); first | exact db_nil | refine dbc ?_ ?_) | ((with_reducible refine natle ?_); first | assumption | omega | (simp; omega)))
      · rw [if_pos (by omega)] at hv
        simp [hm, aggI, ← h4, hv]
      · rw [if_neg (by omega)] at hv
        refine LP_at ?_ rfl (ih (10 * n + ((b.toNat : Int) - 48)) ⟨by omega, by omega, by rw [← hv]; exact h4⟩)
        simp [Env.shr, Env.get, PV.exp, PV.ids, PV.ids.idsL, e1]
    · rintro n ⟨h2, h3, h4⟩
      rw [List.drop_length] at h4
      repeat' (first | refine dr ?_ | (refine ds ?_ ?_ <;> intro hb) | ((with_reducible refine dbm ?_); first | exact db_nil | refine dbc ?_ ?_) | ((with_reducible refine natle ?_); first | assumption | omega | (simp; omega)))
      simp [hm, aggI, ← h4, valM]
  · refine LP_for s (fun i (n : Int) => [(0, .d (.str s)), (2, .ptr 0 0), (4, .d (.int .i64 n)), (5, .d (.int .i64 i))]) (fun _ _ => [.box 33 [.d (.int .i64 0), .d (.int .i64 0)]])
      (fun i n => 0 ≤ n ∧ n ≤ 1099511627776 ∧ valM n (s.drop i) = valM 0 s) 0 rfl rfl ⟨by decide, by decide, rfl⟩ ?_ ?_
    · rintro i b n hx hlt ⟨h2, h3, h4⟩ ih
      obtain ⟨hb1, hb2⟩ := digit_bounds (hI b (List.mem_of_getElem? hx))
      have hv : valM n (s.drop i) = if 1099511627776 < 10 * n + ((b.toNat : Int) - 48) then (0, 3) else valM (10 * n + ((b.toNat : Int) - 48)) (s.drop (i + 1)) := by
        rw [List.drop_eq_getElem_cons hlt, valM]
        rw [show s[i] = b from by have := List.getElem?_eq_getElem hlt; rw [hx] at this; exact (Option.some.inj this).symm]
      have e1 : 10 * n + (b.toNat : Int) - 48 = 10 * n + ((b.toNat : Int) - 48) := by omega
      have hz : b.toNat < 256 := UInt8.toNat_lt b
      repeat' (first | refine dr ?_ | (refine ds ?_ ?_ <;> intro hb) | ((with_reducible refine dbm ?_); first | exact db_nil | refine dbc ?_ ?_) | ((with_reducible refine natle ?_); first | assumption | omega | (simp; omega)))
      · rw [if_pos (by omega)] at hv
        simp [hm, aggI, ← h4, hv]
      · rw [if_neg (by omega)] at hv
        refine LP_at ?_ rfl (ih (10 * n + ((b.toNat : Int) - 48)) ⟨by omega, by omega, by rw [← hv]; exact h4⟩)
        simp [Env.shr, Env.get, PV.exp, PV.ids, PV.ids.idsL, e1]
    · rintro n ⟨h2, h3, h4⟩
      rw [List.drop_length] at h4
      repeat' (first | refine dr ?_ | (refine ds ?_ ?_ <;> intro hb) | ((with_reducible refine dbm ?_); first | exact db_nil | refine dbc ?_ ?_) | ((with_reducible refine natle ?_); first | assumption | omega | (simp; omega)))
      simp [hm, aggI, ← h4, valM]
end Go.Plane
end

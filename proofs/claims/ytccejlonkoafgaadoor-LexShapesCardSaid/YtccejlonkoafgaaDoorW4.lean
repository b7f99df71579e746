/- A part of the proof: the calculus over pure values, contracts of functions, and plain lemmas. -/
import Derived.Test.YtccejlonkoafgaaDoorW3
import Derived.Shelf.RegionOpenPlain
import Derived.WalkKit
import Derived.Lib.Builder
import Derived.Lib.UnsafeStr
import Derived.Laws.Externs
import Derived.Shelf.Strings.Builder1
import Derived.Laws.RangeString
import Derived.Laws.RangeAny
import Derived.Test.YtccejlonkoafgaaDoorW2
section
set_option linter.unusedVariables false
set_option linter.unusedSimpArgs false
namespace Go.Plane
open Go Go.Proofs

theorem strsD_length (l : List (List UInt8)) : (strsD l).length = l.length := by simp [strsD]
theorem strsD_at {l : List (List UInt8)} {n : Nat} {x : List UInt8} (h : l[n]? = some x) : (strsD l)[n]? = some [.str x] := by simp [strsD, h]

/-- The first place of a text among texts; -1 if there is none. -/
def idxOfL (x : List UInt8) : List (List UInt8) → Int
  | [] => -1
  | y :: l => if x = y then 0 else if idxOfL x l = -1 then -1 else idxOfL x l + 1
theorem idxOfL_at {x : List UInt8} : ∀ {l : List (List UInt8)} {n : Nat}, l[n]? = some x → (∀ y ∈ l.take n, x ≠ y) → idxOfL x l = n
  | [], n, h, _ => by simp at h
  | y :: l, 0, h, _ => by simp at h; subst h; simp [idxOfL]
  | y :: l, n + 1, h, hn => by
    have h1 : x ≠ y := hn y (by simp)
    have ih := idxOfL_at (l := l) (n := n) (by simpa using h) (fun z hz => hn z (by simp [hz]))
    simp only [idxOfL, if_neg h1, ih]
    rw [if_neg (by omega)]
    omega
theorem idxOfL_none {x : List UInt8} : ∀ {l : List (List UInt8)}, (∀ y ∈ l, x ≠ y) → idxOfL x l = -1
  | [], _ => rfl
  | y :: l, h => by simp [idxOfL, h y (by simp), idxOfL_none (l := l) (fun z hz => h z (by simp [hz]))]
theorem idxOfL_mem (x : List UInt8) (l : List (List UInt8)) : decide (0 ≤ idxOfL x l) = decide (x ∈ l) := by
  rw [decide_eq_decide]
  constructor
  · intro h
    apply Decidable.byContradiction
    intro hn
    rw [idxOfL_none (fun y hy he => hn (by rw [he]; exact hy))] at h
    omega
  · intro h
    induction l with
    | nil => cases h
    | cons y l ih =>
      unfold idxOfL
      split
      · omega
      · rename_i hne
        have := ih (by rcases List.mem_cons.1 h with h | h; exact absurd h hne; exact h)
        rw [if_neg (by omega)]
        omega

theorem f_Index (l : List (List UInt8)) (x : List UInt8) (hs : l.length ≤ 4294967296) : F Γd 116 [.d (.slice (strsD l)), .d (.str x)] (.d (.int .i64 (idxOfL x l))) := by
  refine fn_of c116 rfl (by simp only [Env.of, List.zipIdx, List.map]; rfl) ?_
  have hl := strsD_length l
  repeat' (first | refine dr ?_ | (refine ds ?_ ?_ <;> intro hb) | ((with_reducible refine dbm ?_); first | exact db_nil | refine dbc ?_ ?_) | ((with_reducible refine natle ?_); first | assumption | omega | (simp; omega)))
  refine LP_ind (α := Nat) (fun n => l.length - n) (fun n => [(0, .d (.slice (strsD l))), (1, .d (.str x)), (7, .d (.int .i64 l.length)), (8, .d (.int .i64 n))]) (fun _ => []) (fun n => n ≤ l.length ∧ ∀ y ∈ l.take n, x ≠ y) 0 rfl rfl ⟨Nat.zero_le _, by simp⟩ ?_
  rintro n ⟨h1, h2⟩ ih
  apply LP_go
  cases hx : l[n]? with
  | none =>
    have hn := List.getElem?_eq_none_iff.1 hx
    repeat' (first | refine dr ?_ | (refine ds ?_ ?_ <;> intro hb) | ((with_reducible refine dbm ?_); first | exact db_nil | refine dbc ?_ ?_) | ((with_reducible refine natle ?_); first | assumption | omega | (simp; omega)))
    obtain rfl : n = l.length := by omega
    rw [List.take_length] at h2
    rw [idxOfL_none h2]
    exact ⟨rfl, rfl⟩
  | some y =>
    have hn : n < l.length := (List.getElem?_eq_some_iff.1 hx).1
    have hy := strsD_at hx
    repeat' (first | refine dr ?_ | (refine ds ?_ ?_ <;> intro hb) | ((with_reducible refine dbm ?_); first | exact db_nil | refine dbc ?_ ?_) | ((with_reducible refine natle ?_); first | assumption | omega | (simp; omega)))
    · obtain rfl : x = y := hb
      rw [idxOfL_at hx h2]
      exact ⟨rfl, rfl⟩
    · refine LP_at ?_ rfl (ih (n + 1) ⟨hn, fun c hc => ?_⟩ (by omega))
      · (first | (simp [Env.shr, Env.get, PV.exp, PV.ids, PV.ids.idsL]; done) | simp [Env.shr, Env.get, PV.exp, PV.ids, PV.ids.idsL, *])
      · rw [List.take_add_one, List.mem_append] at hc
        rcases hc with hc | hc
        · exact h2 c hc
        · rw [hx] at hc; simp at hc; subst hc; exact hb
theorem f_Contains (l : List (List UInt8)) (x : List UInt8) (hs : l.length ≤ 4294967296) : F Γd 97 [.d (.slice (strsD l)), .d (.str x)] (.d (.bool (decide (x ∈ l)))) := by
  refine fn_of c97 rfl (by simp only [Env.of, List.zipIdx, List.map]; rfl) ?_
  have hc := f_Index l x hs
  repeat' (first | ((with_reducible refine wcm ?_); first | refine cF (hc) ?_) | refine dr ?_ | (refine ds ?_ ?_ <;> intro hb) | ((with_reducible refine dbm ?_); first | exact db_nil | refine dbc ?_ ?_) | ((with_reducible refine natle ?_); first | assumption | omega | (simp; omega)))
  rw [idxOfL_mem]
  exact ⟨rfl, rfl⟩
end Go.Plane
end
section
set_option linter.unusedVariables false
set_option linter.unusedSimpArgs false
set_option maxRecDepth 100000
namespace Go.Plane
open Go Go.Proofs

def keywords : List (List UInt8) := [[97, 110, 100], [97, 115], [97, 116, 116, 97, 99, 104, 101, 100], [99, 104, 101, 99, 107], [99, 108, 97, 115, 115], [99, 114, 101, 97, 116, 101], [100, 101, 102, 101, 114, 114, 101, 100], [100, 101, 116, 97, 99, 104, 97, 98, 108, 101], [100, 111], [101, 108, 115, 101], [101, 110, 100], [101, 110, 115, 117, 114, 101], [102, 101, 97, 116, 117, 114, 101], [102, 114, 111, 109], [105, 102], [105, 109, 112, 108, 105, 101, 115], [105, 110, 104, 101, 114, 105, 116], [105, 110, 118, 97, 114, 105, 97, 110, 116], [108, 111, 99, 97, 108], [108, 111, 111, 112], [110, 111, 116], [111, 108, 100], [111, 114], [112, 117, 116], [114, 97, 105, 115, 101], [114, 101, 100, 101, 102, 105, 110, 101], [114, 101, 110, 97, 109, 101], [114, 101, 113, 117, 105, 114, 101], [114, 101, 115, 99, 117, 101], [114, 101, 116, 114, 121], [115, 101, 108, 101, 99, 116], [115, 101, 112, 97, 114, 97, 116, 101], [116, 104, 101, 110], [117, 110, 100, 101, 102, 105, 110, 101], [117, 110, 116, 105, 108], [118, 97, 114, 105, 97, 110, 116], [119, 104, 101, 110]]
def specials : List (List UInt8) := [[84, 114, 117, 101], [70, 97, 108, 115, 101], [86, 111, 105, 100], [67, 117, 114, 114, 101, 110, 116], [82, 101, 115, 117, 108, 116]]
def lowers : List (List UInt8) := [[116, 114, 117, 101], [102, 97, 108, 115, 101], [118, 111, 105, 100], [99, 117, 114, 114, 101, 110, 116], [114, 101, 115, 117, 108, 116]]
theorem fields_keywords : Lib.fields [97, 110, 100, 32, 97, 115, 32, 97, 116, 116, 97, 99, 104, 101, 100, 32, 99, 104, 101, 99, 107, 32, 99, 108, 97, 115, 115, 32, 99, 114, 101, 97, 116, 101, 32, 100, 101, 102, 101, 114, 114, 101, 100, 32, 100, 101, 116, 97, 99, 104, 97, 98, 108, 101, 32, 100, 111, 32, 101, 108, 115, 101, 32, 101, 110, 100, 32, 101, 110, 115, 117, 114, 101, 32, 102, 101, 97, 116, 117, 114, 101, 32, 102, 114, 111, 109, 32, 105, 102, 32, 105, 109, 112, 108, 105, 101, 115, 32, 105, 110, 104, 101, 114, 105, 116, 32, 105, 110, 118, 97, 114, 105, 97, 110, 116, 32, 108, 111, 99, 97, 108, 32, 108, 111, 111, 112, 32, 110, 111, 116, 32, 111, 108, 100, 32, 111, 114, 32, 112, 117, 116, 32, 114, 97, 105, 115, 101, 32, 114, 101, 100, 101, 102, 105, 110, 101, 32, 114, 101, 110, 97, 109, 101, 32, 114, 101, 113, 117, 105, 114, 101, 32, 114, 101, 115, 99, 117, 101, 32, 114, 101, 116, 114, 121, 32, 115, 101, 108, 101, 99, 116, 32, 115, 101, 112, 97, 114, 97, 116, 101, 32, 116, 104, 101, 110, 32, 117, 110, 100, 101, 102, 105, 110, 101, 32, 117, 110, 116, 105, 108, 32, 118, 97, 114, 105, 97, 110, 116, 32, 119, 104, 101, 110] = keywords := by decide +kernel
theorem f_Keywords : F Γd 36 [] (.d (.slice (strsD keywords))) := by
  refine fn_of c36 rfl (by simp only [Env.of, List.zipIdx, List.map]; rfl) ?_
  have h := F_Fields [97, 110, 100, 32, 97, 115, 32, 97, 116, 116, 97, 99, 104, 101, 100, 32, 99, 104, 101, 99, 107, 32, 99, 108, 97, 115, 115, 32, 99, 114, 101, 97, 116, 101, 32, 100, 101, 102, 101, 114, 114, 101, 100, 32, 100, 101, 116, 97, 99, 104, 97, 98, 108, 101, 32, 100, 111, 32, 101, 108, 115, 101, 32, 101, 110, 100, 32, 101, 110, 115, 117, 114, 101, 32, 102, 101, 97, 116, 117, 114, 101, 32, 102, 114, 111, 109, 32, 105, 102, 32, 105, 109, 112, 108, 105, 101, 115, 32, 105, 110, 104, 101, 114, 105, 116, 32, 105, 110, 118, 97, 114, 105, 97, 110, 116, 32, 108, 111, 99, 97, 108, 32, 108, 111, 111, 112, 32, 110, 111, 116, 32, 111, 108, 100, 32, 111, 114, 32, 112, 117, 116, 32, 114, 97, 105, 115, 101, 32, 114, 101, 100, 101, 102, 105, 110, 101, 32, 114, 101, 110, 97, 109, 101, 32, 114, 101, 113, 117, 105, 114, 101, 32, 114, 101, 115, 99, 117, 101, 32, 114, 101, 116, 114, 121, 32, 115, 101, 108, 101, 99, 116, 32, 115, 101, 112, 97, 114, 97, 116, 101, 32, 116, 104, 101, 110, 32, 117, 110, 100, 101, 102, 105, 110, 101, 32, 117, 110, 116, 105, 108, 32, 118, 97, 114, 105, 97, 110, 116, 32, 119, 104, 101, 110] (by decide) (by decide) (by rw [fields_keywords]; decide) (by rw [fields_keywords]; decide)
  rw [fields_keywords] at h
  repeat' (first | ((with_reducible refine wcm ?_); first | refine cF (h) ?_) | refine dr ?_ | (refine ds ?_ ?_ <;> intro hb) | ((with_reducible refine dbm ?_); first | exact db_nil | refine dbc ?_ ?_) | ((with_reducible refine natle ?_); first | assumption | omega | (simp; omega)))
  exact ⟨rfl, rfl⟩
theorem f_word1 (b : UInt8) : F Γd 93 [.d (.int .u8 b.toNat)] (.d (.bool (isPart b && !isCapital b))) := by
  refine fn_of c93 rfl (by simp only [Env.of, List.zipIdx, List.map]; rfl) ?_
  repeat' (first | ((with_reducible refine wcm ?_); first | refine cF (f_within _) ?_ | refine cF (f_capital _) ?_) | refine dr ?_ | (refine ds ?_ ?_ <;> intro hb) | ((with_reducible refine dbm ?_); first | exact db_nil | refine dbc ?_ ?_) | ((with_reducible refine natle ?_); first | assumption | omega | (simp; omega)))
  all_goals simp [*]
theorem f_word2 (b : UInt8) : F Γd 95 [.d (.int .u8 b.toNat)] (.d (.bool (isPart b && !isSmall b))) := by
  refine fn_of c95 rfl (by simp only [Env.of, List.zipIdx, List.map]; rfl) ?_
  repeat' (first | ((with_reducible refine wcm ?_); first | refine cF (f_within _) ?_ | refine cF (f_small _) ?_) | refine dr ?_ | (refine ds ?_ ?_ <;> intro hb) | ((with_reducible refine dbm ?_); first | exact db_nil | refine dbc ?_ ?_) | ((with_reducible refine natle ?_); first | assumption | omega | (simp; omega)))
  all_goals simp [*]
/-- What a word is: its kind, or its error. -/
def wordM (s : List UInt8) : Int × Int :=
  if s ∈ keywords ∨ s ∈ specials then (3, 0)
  else if s ∈ lowers then (0, 4)
  else if s.all (fun b => isPart b && !isCapital b) = false ∧ s.all (fun b => isPart b && !isSmall b) = false then (0, 2)
  else if 20 < s.length then (0, 3)
  else if s.all (fun b => isPart b && !isCapital b) then (1, 0) else (2, 0)
def pairI (p : Int × Int) : PV := .tup [.d (.int .i64 p.1), .d (.int .i64 p.2)]
theorem f_word (s : List UInt8) (hs : s.length ≤ 4294967296) : F Γd 62 [.d (.str s)] (pairI (wordM s)) := by
  refine fn_of c62 rfl (by simp only [Env.of, List.zipIdx, List.map]; rfl) ?_
  repeat' (first | ((with_reducible refine wcm ?_); first | refine cF (f_only _ _ f_word1 s hs) ?_ | refine cF (f_only _ _ f_word2 s hs) ?_ | refine cF (f_Keywords) ?_ | refine cF (f_Contains keywords s (by decide)) ?_ | refine cF (f_Contains specials s (by decide)) ?_ | refine cF (f_Contains lowers s (by decide)) ?_) | refine dr ?_ | (refine ds ?_ ?_ <;> intro hb) | ((with_reducible refine dbm ?_); first | exact db_nil | refine dbc ?_ ?_) | ((with_reducible refine natle ?_); first | assumption | omega | (simp; omega)))
  all_goals (have hnat : ((20 : Int) < (s.length : Int)) ↔ 20 < s.length := by omega)
  all_goals (simp only [pairI, wordM, Bool.not_eq_true', Bool.not_eq_false', hnat] at *; first | contradiction | (exfalso; simp_all only [Bool.true_eq_false, Bool.false_eq_true]; done) | simp [*])
end Go.Plane
end
section
set_option linter.unusedVariables false
set_option linter.unusedSimpArgs false
set_option maxRecDepth 100000
namespace Go.Plane
open Go Go.Proofs
def signs : List (List UInt8) := [[58, 61], [47, 61], [60, 61], [62, 61], [47, 47], [61], [60], [62], [43], [45], [42], [37], [40], [41], [91], [93], [123], [125], [44], [59], [58], [46]]
theorem f_signs : F Γd 98 [] (.agg (signs.map D.str)) := by
  refine fn_of c98 rfl (by simp only [Env.of, List.zipIdx, List.map]; rfl) ?_
  repeat' (first | refine dr ?_ | (refine ds ?_ ?_ <;> intro hb) | ((with_reducible refine dbm ?_); first | exact db_nil | refine dbc ?_ ?_) | ((with_reducible refine natle ?_); first | assumption | omega | (simp; omega)))
  exact ⟨rfl, rfl⟩
def signM (s : List UInt8) : List UInt8 := (signs.find? fun x => x.isPrefixOf s).getD []
theorem find_at {α : Type} {p : α → Bool} : ∀ {l : List α} {n : Nat} {x : α}, l[n]? = some x → p x = true → (∀ y ∈ l.take n, p y = false) → l.find? p = some x
  | [], n, x, h, _, _ => by simp at h
  | y :: l, 0, x, h, hp, _ => by simp at h; subst h; simp [hp]
  | y :: l, n + 1, x, h, hp, hn => by
    rw [List.find?_cons, hn y (by simp)]
    exact find_at (n := n) (by simpa using h) hp (fun z hz => hn z (by simp [hz]))
theorem f_sign (s : List UInt8) : F Γd 63 [.d (.str s)] (.d (.str (signM s))) := by
  refine fn_of c63 rfl (by simp only [Env.of, List.zipIdx, List.map]; rfl) ?_
  repeat' (first | ((with_reducible refine wcm ?_); first | refine cF (f_signs) ?_) | refine dr ?_ | (refine ds ?_ ?_ <;> intro hb) | ((with_reducible refine dbm ?_); first | exact db_nil | refine dbc ?_ ?_) | ((with_reducible refine natle ?_); first | assumption | omega | (simp; omega)))
  refine LP_ind (α := Nat) (fun n => 22 - n) (fun n => [(0, .d (.str s)), (3, .d (.str [])), (6, .agg (signs.map D.str)), (7, .d (.int .i64 n))]) (fun _ => []) (fun n => n ≤ 22 ∧ ∀ y ∈ signs.take n, y.isPrefixOf s = false) 0 rfl rfl ⟨Nat.zero_le _, by simp⟩ ?_
  rintro n ⟨h1, h2⟩ ih
  apply LP_go
  cases hx : signs[n]? with
  | none =>
    have hn : n = 22 := by have := List.getElem?_eq_none_iff.1 hx; simp [signs] at this; omega
    have hlt : decide ((n : Int) < 22) = false := by simp; omega
    repeat' (first | refine dr ?_ | (refine ds ?_ ?_ <;> intro hb) | ((with_reducible refine dbm ?_); first | exact db_nil | refine dbc ?_ ?_) | ((with_reducible refine natle ?_); first | assumption | omega | (simp; omega)))
    subst hn
    have : signM s = [] := by
      unfold signM
      rw [List.find?_eq_none.2]
      · rfl
      · intro x hx'
        rw [h2 x (by rw [List.take_of_length_le (by simp [signs])]; exact hx')]
        simp
    rw [this]
    exact ⟨rfl, rfl⟩
  | some y =>
    have hn : n < 22 := by have := (List.getElem?_eq_some_iff.1 hx).1; simpa [signs] using this
    have hlt : decide ((n : Int) < 22) = true := by simp; omega
    have hlt2 : ((n : Int) < ((22 : Nat) : Int)) = True := by simp; omega
    have hy : (signs.map D.str)[n]? = some (.str y) := by simp [hx]
    have hc := F_HasPrefix s y
    cases hp : y.isPrefixOf s with
    | true =>
      rw [hp] at hc
      repeat' (first | ((with_reducible refine wcm ?_); first | refine cF (hc) ?_) | refine dr ?_ | (refine ds ?_ ?_ <;> intro hb) | ((with_reducible refine dbm ?_); first | exact db_nil | refine dbc ?_ ?_) | ((with_reducible refine natle ?_); first | assumption | omega | (simp; omega)))
      have : signM s = y := by unfold signM; rw [find_at hx hp h2]; rfl
      rw [this]
      exact ⟨rfl, rfl⟩
    | false =>
      rw [hp] at hc
      repeat' (first | ((with_reducible refine wcm ?_); first | refine cF (hc) ?_) | refine dr ?_ | (refine ds ?_ ?_ <;> intro hb) | ((with_reducible refine dbm ?_); first | exact db_nil | refine dbc ?_ ?_) | ((with_reducible refine natle ?_); first | assumption | omega | (simp; omega)))
      refine LP_at ?_ rfl (ih (n + 1) ⟨hn, fun c hc' => ?_⟩ (by omega))
      · (first | (simp [Env.shr, Env.get, PV.exp, PV.ids, PV.ids.idsL]; done) | simp [Env.shr, Env.get, PV.exp, PV.ids, PV.ids.idsL, *])
      · rw [List.take_add_one, List.mem_append] at hc'
        rcases hc' with hc' | hc'
        · exact h2 c hc'
        · rw [hx] at hc'; simp at hc'; subst hc'; exact hp
end Go.Plane
end
section
set_option linter.unusedVariables false
set_option linter.unusedSimpArgs false
set_option maxRecDepth 100000
set_option maxHeartbeats 1000000
namespace Go.Plane
open Go Go.Proofs
def valM : Int → List UInt8 → Int × Int
  | n, [] => (n, 0)
  | n, b :: l => if 1099511627776 < 10 * n + ((b.toNat : Int) - 48) then (0, 3) else valM (10 * n + ((b.toNat : Int) - 48)) l
def numberM (s : List UInt8) : Int × Int :=
  if s.all isDigit = false ∨ (1 < s.length ∧ s[0]? = some 48) then (0, 2) else valM 0 s
theorem digit_bounds {b : UInt8} (h : isDigit b = true) : 48 ≤ (b.toNat : Int) ∧ (b.toNat : Int) ≤ 57 := by
  rw [isDigit_int] at h; simpa using h
theorem byte48 {c : UInt8} : (c.toNat : Int) = 48 ↔ c = 48 := by
  have := byte_eq c 48 (by decide)
  rw [Bool.eq_iff_iff, beq_iff_eq, beq_iff_eq] at this
  exact this
theorem f_number (s : List UInt8) (hs : s.length ≤ 4294967296) : F Γd 61 [.d (.str s)] (pairI (numberM s)) := by
  refine fn_of c61 rfl (by simp only [Env.of, List.zipIdx, List.map]; rfl) ?_
  have ho := f_only _ _ f_digit s hs
  cases hd : s.all isDigit with
  | false =>
    rw [hd] at ho
    repeat' (first | ((with_reducible refine wcm ?_); first | refine cF (ho) ?_) | refine dr ?_ | (refine ds ?_ ?_ <;> intro hb) | ((with_reducible refine dbm ?_); first | exact db_nil | refine dbc ?_ ?_) | ((with_reducible refine natle ?_); first | assumption | omega | (simp; omega)))
    simp [numberM, hd, pairI]
  | true =>
    rw [hd] at ho
    have hall := List.all_eq_true.1 hd
    have h0 : ∀ c, s[0]? = some c → (¬(1 < s.length ∧ s[0]? = some 48) ↔ ¬(1 < s.length ∧ (c.toNat : Int) = 48)) := fun c hc => by rw [hc, byte48]; simp
    cases hx0 : s[0]? with
    | none =>
      have hl0 : s = [] := by cases s with | nil => rfl | cons _ _ => simp at hx0
      subst hl0
      repeat' (first | ((with_reducible refine wcm ?_); first | refine cF (ho) ?_) | refine dr ?_ | (refine ds ?_ ?_ <;> intro hb) | ((with_reducible refine dbm ?_); first | exact db_nil | refine dbc ?_ ?_) | ((with_reducible refine natle ?_); first | assumption | omega | (simp; omega)))
      apply LP_go
      repeat' (first | refine dr ?_ | (refine ds ?_ ?_ <;> intro hb) | ((with_reducible refine dbm ?_); first | exact db_nil | refine dbc ?_ ?_) | ((with_reducible refine natle ?_); first | assumption | omega | (simp; omega)))
      simp [numberM, valM, pairI]
    | some c =>
      have h0 := h0 c hx0
      repeat' (first | ((with_reducible refine wcm ?_); first | refine cF (ho) ?_) | refine dr ?_ | (refine ds ?_ ?_ <;> intro hb) | ((with_reducible refine dbm ?_); first | exact db_nil | refine dbc ?_ ?_) | ((with_reducible refine natle ?_); first | assumption | omega | (simp; omega)))
      · have hN : numberM s = (0, 2) := by
          unfold numberM
          rw [if_pos (.inr ⟨by omega, by rw [hx0, byte48.1 ‹(c.toNat : Int) = 48›]⟩)]
        simp [hN, pairI]
      ·
        refine LP_ind (α := Nat × Int) (fun a => s.length - a.1) (fun a => [(0, .d (.str s)), (4, .d (.int .i64 a.2)), (20, .d (.int .i64 s.length)), (21, .d (.int .i64 a.1))]) (fun _ => [])
          (fun a => a.1 ≤ s.length ∧ 0 ≤ a.2 ∧ a.2 ≤ 1099511627776 ∧ valM a.2 (s.drop a.1) = valM 0 s) (0, 0) rfl rfl ⟨Nat.zero_le _, by decide, by decide, rfl⟩ ?_
        rintro ⟨i, n⟩ ⟨h1, h2, h3, h4⟩ ih
        simp only at h1 h2 h3 h4
        have hgood : ¬(1 < s.length ∧ s[0]? = some 48) := h0.2 (by omega)
        have hN : numberM s = valM 0 s := by
          unfold numberM
          rw [if_neg]
          rintro (h | h)
          · rw [hd] at h; cases h
          · exact hgood h
        apply LP_go
        cases hx : s[i]? with
        | none =>
          have hn : i = s.length := by have := List.getElem?_eq_none_iff.1 hx; omega
          subst hn
          repeat' (first | refine dr ?_ | (refine ds ?_ ?_ <;> intro hb) | ((with_reducible refine dbm ?_); first | exact db_nil | refine dbc ?_ ?_) | ((with_reducible refine natle ?_); first | assumption | omega | (simp; omega)))
          rw [List.drop_length] at h4
          simp [hN, pairI, ← h4, valM]
        | some b =>
          have hn : i < s.length := (List.getElem?_eq_some_iff.1 hx).1
          obtain ⟨hb1, hb2⟩ := digit_bounds (hall b (List.mem_of_getElem? hx))
          have hv : valM n (s.drop i) = if 1099511627776 < 10 * n + ((b.toNat : Int) - 48) then (0, 3) else valM (10 * n + ((b.toNat : Int) - 48)) (s.drop (i + 1)) := by
            rw [List.drop_eq_getElem_cons hn, valM]
            rw [show s[i] = b from by have := List.getElem?_eq_getElem hn; rw [hx] at this; exact (Option.some.inj this).symm]
          repeat' (first | refine dr ?_ | (refine ds ?_ ?_ <;> intro hb) | ((with_reducible refine dbm ?_); first | exact db_nil | refine dbc ?_ ?_) | ((with_reducible refine natle ?_); first | assumption | omega | (simp; omega)))
          · rw [if_pos (by assumption)] at hv
            simp [hN, pairI, ← h4, hv]
          · rw [if_neg (by assumption)] at hv
            refine LP_at ?_ rfl (ih (i + 1, 10 * n + ((b.toNat : Int) - 48)) ⟨hn, by simp only; omega, by simp only; omega, by simp only; rw [← hv]; exact h4⟩ (by simp only; omega))
            (first | (simp [Env.shr, Env.get, PV.exp, PV.ids, PV.ids.idsL]; done) | simp [Env.shr, Env.get, PV.exp, PV.ids, PV.ids.idsL, *])
      ·
        refine LP_ind (α := Nat × Int) (fun a => s.length - a.1) (fun a => [(0, .d (.str s)), (4, .d (.int .i64 a.2)), (20, .d (.int .i64 s.length)), (21, .d (.int .i64 a.1))]) (fun _ => [])
          (fun a => a.1 ≤ s.length ∧ 0 ≤ a.2 ∧ a.2 ≤ 1099511627776 ∧ valM a.2 (s.drop a.1) = valM 0 s) (0, 0) rfl rfl ⟨Nat.zero_le _, by decide, by decide, rfl⟩ ?_
        rintro ⟨i, n⟩ ⟨h1, h2, h3, h4⟩ ih
        simp only at h1 h2 h3 h4
        have hgood : ¬(1 < s.length ∧ s[0]? = some 48) := h0.2 (by omega)
        have hN : numberM s = valM 0 s := by
          unfold numberM
          rw [if_neg]
          rintro (h | h)
          · rw [hd] at h; cases h
          · exact hgood h
        apply LP_go
        cases hx : s[i]? with
        | none =>
          have hn : i = s.length := by have := List.getElem?_eq_none_iff.1 hx; omega
          subst hn
          repeat' (first | refine dr ?_ | (refine ds ?_ ?_ <;> intro hb) | ((with_reducible refine dbm ?_); first | exact db_nil | refine dbc ?_ ?_) | ((with_reducible refine natle ?_); first | assumption | omega | (simp; omega)))
          rw [List.drop_length] at h4
          simp [hN, pairI, ← h4, valM]
        | some b =>
          have hn : i < s.length := (List.getElem?_eq_some_iff.1 hx).1
          obtain ⟨hb1, hb2⟩ := digit_bounds (hall b (List.mem_of_getElem? hx))
          have hv : valM n (s.drop i) = if 1099511627776 < 10 * n + ((b.toNat : Int) - 48) then (0, 3) else valM (10 * n + ((b.toNat : Int) - 48)) (s.drop (i + 1)) := by
            rw [List.drop_eq_getElem_cons hn, valM]
            rw [show s[i] = b from by have := List.getElem?_eq_getElem hn; rw [hx] at this; exact (Option.some.inj this).symm]
          repeat' (first | refine dr ?_ | (refine ds ?_ ?_ <;> intro hb) | ((with_reducible refine dbm ?_); first | exact db_nil | refine dbc ?_ ?_) | ((with_reducible refine natle ?_); first | assumption | omega | (simp; omega)))
          · rw [if_pos (by assumption)] at hv
            simp [hN, pairI, ← h4, hv]
          · rw [if_neg (by assumption)] at hv
            refine LP_at ?_ rfl (ih (i + 1, 10 * n + ((b.toNat : Int) - 48)) ⟨hn, by simp only; omega, by simp only; omega, by simp only; rw [← hv]; exact h4⟩ (by simp only; omega))
            (first | (simp [Env.shr, Env.get, PV.exp, PV.ids, PV.ids.idsL]; done) | simp [Env.shr, Env.get, PV.exp, PV.ids, PV.ids.idsL, *])
end Go.Plane
end
section
set_option linter.unusedVariables false
set_option linter.unusedSimpArgs false
set_option maxRecDepth 100000
namespace Go.Plane
open Go Go.Proofs
/-- What a text is: the kind of its token, or the error. -/
def shapeM (s : List UInt8) : Int × Int :=
  match s with
  | [] => (0, 2)
  | b :: _ =>
    if (s.takeWhile isPart).length = s.length ∧ isDigit b then (if (numberM s).2 ≠ 0 then (0, (numberM s).2) else (4, 0))
    else if (s.takeWhile isPart).length = s.length ∧ b ≠ 95 then wordM s
    else if signM s = s then (5, 0) else (0, 2)
theorem shapeM_cons (b : UInt8) (r : List UInt8) : shapeM (b :: r) =
    if ((List.takeWhile isPart (b :: r)).length : Int) = (r.length : Int) + 1 ∧ isDigit b then (if (numberM (b :: r)).2 ≠ 0 then (0, (numberM (b :: r)).2) else (4, 0))
    else if ((List.takeWhile isPart (b :: r)).length : Int) = (r.length : Int) + 1 ∧ (b.toNat : Int) ≠ 95 then wordM (b :: r)
    else if signM (b :: r) = b :: r then (5, 0) else (0, 2) := by
  have h1 : ((List.takeWhile isPart (b :: r)).length = (b :: r).length) = (((List.takeWhile isPart (b :: r)).length : Int) = (r.length : Int) + 1) := by
    rw [List.length_cons (a := b)]; apply propext; omega
  have h2 : (b ≠ 95) = ((b.toNat : Int) ≠ 95) := by
    have := byte_eq b 95 (by decide)
    rw [Bool.eq_iff_iff, beq_iff_eq, beq_iff_eq] at this
    apply propext
    exact not_congr this.symm
  unfold shapeM
  simp only [h1, h2]
theorem f_Shape (s : List UInt8) (hs : s.length ≤ 4294967296) : F Γd 32 [.d (.str s)] (pairI (shapeM s)) := by
  refine fn_of c32 rfl (by simp only [Env.of, List.zipIdx, List.map]; rfl) ?_
  cases s with
  | nil =>
    have h : (([] : List UInt8) == []) = true := rfl
    repeat' (first | refine dr ?_ | (refine ds ?_ ?_ <;> intro hb) | ((with_reducible refine dbm ?_); first | exact db_nil | refine dbc ?_ ?_) | ((with_reducible refine natle ?_); first | assumption | omega | (simp; omega)))
    exact ⟨rfl, rfl⟩
  | cons b r =>
    have h : ((b :: r) == []) = false := rfl
    repeat' (first | ((with_reducible refine wcm ?_); first | refine cF (f_run _ hs) ?_ | refine cF (f_digit _) ?_ | refine cF (f_number _ hs) ?_ | refine cF (f_word _ hs) ?_ | refine cF (f_sign _) ?_) | refine dr ?_ | (refine ds ?_ ?_ <;> intro hb) | ((with_reducible refine dbm ?_); first | exact db_nil | refine dbc ?_ ?_) | ((with_reducible refine natle ?_); first | assumption | omega | (simp; omega)))
    all_goals (push_cast at *; simp [shapeM_cons, pairI, *])
end Go.Plane
end
section
set_option linter.unusedVariables false
set_option linter.unusedSimpArgs false
set_option maxRecDepth 100000
namespace Go.Plane
open Go Go.Proofs
def valueM (s : List UInt8) : Int × Int :=
  if (shapeM s).2 ≠ 0 then (0, (shapeM s).2) else if (shapeM s).1 ≠ 4 then (0, 2) else numberM s
theorem f_Value (s : List UInt8) (hs : s.length ≤ 4294967296) : F Γd 34 [.d (.str s)] (pairI (valueM s)) := by
  refine fn_of c34 rfl (by simp only [Env.of, List.zipIdx, List.map]; rfl) ?_
  repeat' (first | ((with_reducible refine wcm ?_); first | refine cF (f_Shape _ hs) ?_ | refine cF (f_number _ hs) ?_) | refine dr ?_ | (refine ds ?_ ?_ <;> intro hb) | ((with_reducible refine dbm ?_); first | exact db_nil | refine dbc ?_ ?_) | ((with_reducible refine natle ?_); first | assumption | omega | (simp; omega)))
  all_goals simp_all [valueM, pairI]
end Go.Plane
end
section
set_option linter.unusedVariables false
set_option linter.unusedSimpArgs false
set_option maxRecDepth 100000
set_option maxHeartbeats 1000000
namespace Go.Plane
open Go Go.Proofs
def lastM (s : List UInt8) : Int := Lib.lastIndexByte ⟨s.toArray⟩ 10
def placeV (p : Int × Int) (e : Int) : PV := .tup [.agg [.int .i64 p.1, .int .i64 p.2], .d (.int .i64 e)]
def placeOfM (s : List UInt8) (off : Int) : (Int × Int) × Int :=
  if off < 0 ∨ (s.length : Int) < off then ((0, 0), 1) else ((1 + (s.take off.toNat).count 10, off - lastM (s.take off.toNat)), 0)
theorem lastM_le (s : List UInt8) : -1 ≤ lastM s ∧ lastM s ≤ s.length := by
  rcases Lib.lastIndexByte_spec ⟨s.toArray⟩ 10 with ⟨h, _⟩ | ⟨i, hi, h, _⟩
  · unfold lastM; rw [h]; omega
  · unfold lastM; rw [h]
    have : (⟨s.toArray⟩ : ByteArray).size = s.length := by simp [ByteArray.size]
    omega
theorem f_PlaceOf (s : List UInt8) (off : Int) (hs : s.length ≤ 4294967296) : F Γd 16 [.d (.str s), .d (.int .i64 off)] (placeV (placeOfM s off).1 (placeOfM s off).2) := by
  refine fn_of c16 rfl (by simp only [Env.of, List.zipIdx, List.map]; rfl) ?_
  have hlen : (s.take off.toNat).length ≤ s.length := by simp; omega
  have hcnt : (s.take off.toNat).count 10 ≤ (s.take off.toNat).length := List.count_le_length
  have hl1 := lastM_le (s.take off.toNat)
  have hL : F Γd 43 [.d (.str (s.take off.toNat)), .d (.int .u8 10)] (.d (.int .i64 (lastM (s.take off.toNat)))) := F_LastIndexByte (s.take off.toNat) 10 (by omega)
  repeat' (first | ((with_reducible refine wcm ?_); first | refine cF (F_Count _ 10) ?_ | refine cF (hL) ?_) | refine dr ?_ | (refine ds ?_ ?_ <;> intro hb) | ((with_reducible refine dbm ?_); first | exact db_nil | refine dbc ?_ ?_) | ((with_reducible refine natle ?_); first | assumption | omega | (simp; omega)))
  all_goals simp [placeOfM, placeV, *]
end Go.Plane
end
section
set_option linter.unusedVariables false
set_option linter.unusedSimpArgs false
set_option maxRecDepth 100000
set_option maxHeartbeats 1000000
namespace Go.Plane
open Go Go.Proofs
def textV (s : List UInt8) (e : Int) : PV := .tup [.d (.str s), .d (.int .i64 e)]
def editM (s : List UInt8) (a b : Int) (x : List UInt8) : List UInt8 × Int :=
  if a < 0 ∨ b < a ∨ (s.length : Int) < b then ([], 1)
  else if 20000 < (s.length : Int) - (b - a) + x.length then ([], 3)
  else (s.take a.toNat ++ x ++ s.drop b.toNat, 0)
theorem f_Edit (s : List UInt8) (a b : Int) (x : List UInt8) (hs : s.length ≤ 4294967296) (hx : x.length ≤ 4294967296) :
    F Γd 18 [.d (.str s), .agg [.int .i64 a, .int .i64 b, .str x]] (textV (editM s a b x).1 (editM s a b x).2) := by
  refine fn_of c18 rfl (by simp only [Env.of, List.zipIdx, List.map]; rfl) ?_
  have e1 : (s.take a.toNat).length ≤ s.length := by simp; omega
  have e2 : (s.take a.toNat ++ x).length ≤ s.length + x.length := by simp; omega
  have e3 : (s.drop b.toNat).length ≤ s.length := by simp
  repeat' (first | refine dr ?_ | (refine ds ?_ ?_ <;> intro hb) | ((with_reducible refine dbm ?_); first | exact db_nil | refine dbc ?_ ?_) | ((with_reducible refine natle ?_); first | assumption | omega | (simp; omega)))
  all_goals simp [editM, textV, *]
end Go.Plane
end
section
set_option linter.unusedVariables false
set_option linter.unusedSimpArgs false
set_option maxRecDepth 100000
set_option maxHeartbeats 1000000
namespace Go.Plane
open Go Go.Proofs
/-- The bytes of lines, with their line feeds. -/
def bytesM (l : List (List UInt8)) : Int := (l.map fun x => (x.length : Int) + 1).sum
theorem bytesM_nonneg : ∀ l, 0 ≤ bytesM l
  | [] => by simp [bytesM]
  | x :: l => by have := bytesM_nonneg l; simp only [bytesM, List.map_cons, List.sum_cons] at *; omega
theorem bytesM_append (a b : List (List UInt8)) : bytesM (a ++ b) = bytesM a + bytesM b := by simp [bytesM]
theorem bytesM_take_succ {l : List (List UInt8)} {i : Nat} {x : List UInt8} (h : l[i]? = some x) : bytesM (l.take (i + 1)) = bytesM (l.take i) + (x.length + 1) := by
  rw [List.take_add_one, bytesM_append, h]; simp [bytesM]
theorem bytesM_split (c : UInt8) : ∀ l, bytesM (splitL c l) = l.length + 1
  | [] => by simp [splitL, bytesM]
  | b :: l => by
    have ih := bytesM_split c l
    unfold splitL
    split
    · simp only [bytesM, List.map_cons, List.sum_cons, List.length_nil, List.length_cons] at *; omega
    · split
      · rename_i x r he
        rw [he] at ih
        simp only [bytesM, List.map_cons, List.sum_cons, List.length_cons] at *; omega
      · rename_i he; exact absurd he (splitL_ne c l)
theorem bytesM_take_le (l : List (List UInt8)) (n : Nat) : bytesM (l.take n) ≤ bytesM l := by
  have h : bytesM l = bytesM (l.take n) + bytesM (l.drop n) := by rw [← bytesM_append, List.take_append_drop]
  have := bytesM_nonneg (l.drop n)
  omega
def offsetM (s : List UInt8) (l c : Int) : Int × Int :=
  if l < 1 ∨ ((splitL 10 s).length : Int) < l ∨ c < 1 ∨ (((splitL 10 s)[(l - 1).toNat]?.getD []).length : Int) + 1 < c then (0, 1)
  else (c - 1 + bytesM ((splitL 10 s).take (l - 1).toNat), 0)
theorem strsD_len (l : List (List UInt8)) : ∀ y ∈ strsD l, y.length = 1 := by simp [strsD]
theorem strsD_take (l : List (List UInt8)) (n : Nat) : (strsD l).take n = strsD (l.take n) := by simp [strsD]
theorem strsD_drop (l : List (List UInt8)) (n : Nat) : (strsD l).drop n = strsD (l.drop n) := by simp [strsD]
theorem f_Offset (s : List UInt8) (l c : Int) (hs : s.length ≤ 2147483648) : F Γd 14 [.d (.str s), .agg [.int .i64 l, .int .i64 c]] (pairI (offsetM s l c)) := by
  refine fn_of c14 rfl (by simp only [Env.of, List.zipIdx, List.map]; rfl) ?_
  have hS := F_Split s 10 (by omega)
  have hlen := strsD_length (splitL 10 s)
  have hall := strsD_len (splitL 10 s)
  have hcnt : (splitL 10 s).length ≤ s.length + 1 := by rw [splitL_length]; have := List.count_le_length (a := (10 : UInt8)) (l := s); omega
  cases hx : (splitL 10 s)[(l - 1).toNat]? with
  | none =>
    have hn := List.getElem?_eq_none_iff.1 hx
    have hm : offsetM s l c = (0, 1) := by unfold offsetM; rw [if_pos]; omega
    repeat' (first | ((with_reducible refine wcm ?_); first | refine cF (hS) ?_) | refine dr ?_ | (refine ds ?_ ?_ <;> intro hb) | ((with_reducible refine dbm ?_); first | exact db_nil | refine dbc ?_ ?_) | ((with_reducible refine natle ?_); first | assumption | omega | (simp; omega)))
    all_goals simp [hm, pairI]
  | some x =>
    have hn := (List.getElem?_eq_some_iff.1 hx).1
    have hy := strsD_at hx
    have hxl : x.length ≤ s.length := splitL_le 10 s x (List.mem_of_getElem? hx)
    by_cases hc : l < 1 ∨ ((splitL 10 s).length : Int) < l ∨ c < 1 ∨ (x.length : Int) + 1 < c
    · have hm : offsetM s l c = (0, 1) := by unfold offsetM; rw [hx, Option.getD_some, if_pos hc]
      repeat' (first | ((with_reducible refine wcm ?_); first | refine cF (hS) ?_) | refine dr ?_ | (refine ds ?_ ?_ <;> intro hb) | ((with_reducible refine dbm ?_); first | exact db_nil | refine dbc ?_ ?_) | ((with_reducible refine natle ?_); first | assumption | omega | (simp; omega)))
      all_goals simp [hm, pairI]
    have hok : offsetM s l c = (c - 1 + bytesM ((splitL 10 s).take (l - 1).toNat), 0) := by unfold offsetM; rw [hx, Option.getD_some, if_neg hc]
    repeat' (first | ((with_reducible refine wcm ?_); first | refine cF (hS) ?_) | refine dr ?_ | (refine ds ?_ ?_ <;> intro hb) | ((with_reducible refine dbm ?_); first | exact db_nil | refine dbc ?_ ?_) | ((with_reducible refine natle ?_); first | assumption | omega | (simp; omega)))
    have hle := bytesM_take_le (splitL 10 s)
    have hsp := bytesM_split 10 s
    refine LP_for ((splitL 10 s).take (l - 1).toNat) (fun i n => [(7, .d (.int .i64 n)), (47, .d (.slice ((strsD (splitL 10 s)).take (l - 1).toNat))), (48, .d (.int .i64 ((strsD (splitL 10 s)).take (l - 1).toNat).length)), (49, .d (.int .i64 i))])
      (fun _ _ => [.box 23 [.d (.int .i64 l), .d (.int .i64 c)]]) (fun i n => n = c - 1 + bytesM (((splitL 10 s).take (l - 1).toNat).take i)) (c - 1) rfl rfl (by simp [bytesM]) ?_ ?_
    · rintro i y n hi hlt rfl ih
      have hy := strsD_at hi
      rw [← strsD_take] at hy
      have hb := bytesM_take_le ((splitL 10 s).take (l - 1).toNat) i
      have hb2 := hle (l - 1).toNat
      have hb3 := bytesM_nonneg (((splitL 10 s).take (l - 1).toNat).take i)
      have hyl : y.length ≤ s.length := splitL_le 10 s y (List.mem_of_mem_take (List.mem_of_getElem? hi))
      have hl2 : ((strsD (splitL 10 s)).take (l - 1).toNat).length = ((splitL 10 s).take (l - 1).toNat).length := by simp [strsD]
      have hl3 : ((splitL 10 s).take (l - 1).toNat).length ≤ (splitL 10 s).length := by simp; omega
      repeat' (first | refine dr ?_ | (refine ds ?_ ?_ <;> intro hb) | ((with_reducible refine dbm ?_); first | exact db_nil | refine dbc ?_ ?_) | ((with_reducible refine natle ?_); first | assumption | omega | (simp; omega)))
      refine LP_at ?_ rfl (ih _ rfl)
      rw [bytesM_take_succ hi]
      (first | (simp [Env.shr, Env.get, PV.exp, PV.ids, PV.ids.idsL]; done) | simp [Env.shr, Env.get, PV.exp, PV.ids, PV.ids.idsL, *])
      omega
    · rintro n rfl
      have hl2 : ((strsD (splitL 10 s)).take (l - 1).toNat).length = ((splitL 10 s).take (l - 1).toNat).length := by simp [strsD]
      repeat' (first | refine dr ?_ | (refine ds ?_ ?_ <;> intro hb) | ((with_reducible refine dbm ?_); first | exact db_nil | refine dbc ?_ ?_) | ((with_reducible refine natle ?_); first | assumption | omega | (simp; omega)))
      rw [List.take_length]
      simp [hok, pairI]
end Go.Plane
end
section
set_option linter.unusedVariables false
set_option linter.unusedSimpArgs false
set_option maxRecDepth 100000
set_option maxHeartbeats 1000000
namespace Go.Plane
open Go Go.Proofs
/-- A token: its kind, text, line and column. -/
structure Tok where
  k : Int
  s : List UInt8
  l : Int
  c : Int
  deriving DecidableEq
abbrev Tok.row (t : Tok) : List D := [.int .i64 t.k, .str t.s, .int .i64 t.l, .int .i64 t.c]
def toksD (l : List Tok) : List (List D) := l.map Tok.row
theorem toksD_length (l : List Tok) : (toksD l).length = l.length := by simp [toksD]
theorem toksD_at {l : List Tok} {n : Nat} {x : Tok} (h : l[n]? = some x) : (toksD l)[n]? = some [.int .i64 x.k, .str x.s, .int .i64 x.l, .int .i64 x.c] := by simp [toksD, h]
theorem toksD_len (l : List Tok) : ∀ y ∈ toksD l, y.length = 4 := by simp [toksD]
theorem toksD_append (a b : List Tok) : toksD (a ++ b) = toksD a ++ toksD b := by simp [toksD]

def cmpM (a b : Int) : Int := if a < b then -1 else if b < a then 1 else 0
def compareM (l c l' c' : Int) : Int := if cmpM l l' ≠ 0 then cmpM l l' else cmpM c c'
theorem f_Or (a b : Int) : F Γd 82 [.d (.slice [[.int .i64 a], [.int .i64 b]])] (.d (.int .i64 (if a ≠ 0 then a else b))) := by
  refine fn_of c82 rfl (by simp only [Env.of, List.zipIdx, List.map]; rfl) ?_
  repeat' (first | refine dr ?_ | (refine ds ?_ ?_ <;> intro hb) | ((with_reducible refine dbm ?_); first | exact db_nil | refine dbc ?_ ?_) | ((with_reducible refine natle ?_); first | assumption | omega | (simp; omega)))
  apply LP_go
  repeat' (first | refine dr ?_ | (refine ds ?_ ?_ <;> intro hb) | ((with_reducible refine dbm ?_); first | exact db_nil | refine dbc ?_ ?_) | ((with_reducible refine natle ?_); first | assumption | omega | (simp; omega)))
  · simp_all
  refine LP_at (env' := [(3, .d (.int .i64 0)), (6, .d (.slice [[.int .i64 a], [.int .i64 b]])), (7, .d (.int .i64 2)), (8, .d (.int .i64 1))]) ?_ rfl ?_
  · (first | (simp [Env.shr, Env.get, PV.exp, PV.ids, PV.ids.idsL]; done) | simp [Env.shr, Env.get, PV.exp, PV.ids, PV.ids.idsL, *])
  apply LP_go
  repeat' (first | refine dr ?_ | (refine ds ?_ ?_ <;> intro hb) | ((with_reducible refine dbm ?_); first | exact db_nil | refine dbc ?_ ?_) | ((with_reducible refine natle ?_); first | assumption | omega | (simp; omega)))
  · simp_all
  refine LP_at (env' := [(3, .d (.int .i64 0)), (6, .d (.slice [[.int .i64 a], [.int .i64 b]])), (7, .d (.int .i64 2)), (8, .d (.int .i64 2))]) ?_ rfl ?_
  · (first | (simp [Env.shr, Env.get, PV.exp, PV.ids, PV.ids.idsL]; done) | simp [Env.shr, Env.get, PV.exp, PV.ids, PV.ids.idsL, *])
  apply LP_go
  repeat' (first | refine dr ?_ | (refine ds ?_ ?_ <;> intro hb) | ((with_reducible refine dbm ?_); first | exact db_nil | refine dbc ?_ ?_) | ((with_reducible refine natle ?_); first | assumption | omega | (simp; omega)))
  simp_all
theorem f_compare (l c l' c' : Int) : F Γd 51 [.agg [.int .i64 l, .int .i64 c], .agg [.int .i64 l', .int .i64 c']] (.d (.int .i64 (compareM l c l' c'))) := by
  refine fn_of c51 rfl (by simp only [Env.of, List.zipIdx, List.map]; rfl) ?_
  repeat' (first | ((with_reducible refine wcm ?_); first | refine cF (F_Compare _ _) ?_ | refine cF (f_Or _ _) ?_) | refine dr ?_ | (refine ds ?_ ?_ <;> intro hb) | ((with_reducible refine dbm ?_); first | exact db_nil | refine dbc ?_ ?_) | ((with_reducible refine natle ?_); first | assumption | omega | (simp; omega)))
  exact ⟨rfl, rfl⟩
def sameTokM (a b : Tok) : Bool := a.k == b.k && a.s == b.s
theorem f_equal (a b : Tok) : F Γd 72 [.agg a.row, .agg b.row] (.d (.bool (sameTokM a b))) := by
  refine fn_of c72 rfl (by simp only [Env.of, List.zipIdx, List.map]; rfl) ?_
  repeat' (first | refine dr ?_ | (refine ds ?_ ?_ <;> intro hb) | ((with_reducible refine dbm ?_); first | exact db_nil | refine dbc ?_ ?_) | ((with_reducible refine natle ?_); first | assumption | omega | (simp; omega)))
  all_goals simp [sameTokM, *]
theorem f_token (k : Int) : F Γd 49 [.d (.int .i64 k)] (.d (.bool (k != 6))) := by
  refine fn_of c49 rfl (by simp only [Env.of, List.zipIdx, List.map]; rfl) ?_
  repeat' (first | refine dr ?_ | (refine ds ?_ ?_ <;> intro hb) | ((with_reducible refine dbm ?_); first | exact db_nil | refine dbc ?_ ?_) | ((with_reducible refine natle ?_); first | assumption | omega | (simp; omega)))
  all_goals exact ⟨rfl, rfl⟩
theorem f_note (k : Int) : F Γd 58 [.d (.int .i64 k)] (.d (.bool (k == 6))) := by
  refine fn_of c58 rfl (by simp only [Env.of, List.zipIdx, List.map]; rfl) ?_
  repeat' (first | refine dr ?_ | (refine ds ?_ ?_ <;> intro hb) | ((with_reducible refine dbm ?_); first | exact db_nil | refine dbc ?_ ?_) | ((with_reducible refine natle ?_); first | assumption | omega | (simp; omega)))
  all_goals exact ⟨rfl, rfl⟩
end Go.Plane
end
section
set_option linter.unusedVariables false
set_option linter.unusedSimpArgs false
set_option maxRecDepth 100000
set_option maxHeartbeats 1000000
namespace Go.Plane
open Go Go.Proofs
theorem r_digit (b : UInt8) : F Γd 67 [.d (.int .u8 b.toNat)] (.d (.bool (isDigit b))) := by
  refine fn_of c67 rfl (by simp only [Env.of, List.zipIdx, List.map]; rfl) ?_
  repeat' (first | refine dr ?_ | (refine ds ?_ ?_ <;> intro hb) | ((with_reducible refine dbm ?_); first | exact db_nil | refine dbc ?_ ?_) | ((with_reducible refine natle ?_); first | assumption | omega | (simp; omega)))
  all_goals simp [isDigit_int, *]
theorem r_small (b : UInt8) : F Γd 99 [.d (.int .u8 b.toNat)] (.d (.bool (isSmall b))) := by
  refine fn_of c99 rfl (by simp only [Env.of, List.zipIdx, List.map]; rfl) ?_
  repeat' (first | refine dr ?_ | (refine ds ?_ ?_ <;> intro hb) | ((with_reducible refine dbm ?_); first | exact db_nil | refine dbc ?_ ?_) | ((with_reducible refine natle ?_); first | assumption | omega | (simp; omega)))
  all_goals simp [isSmall_int, *]
theorem r_capital (b : UInt8) : F Γd 100 [.d (.int .u8 b.toNat)] (.d (.bool (isCapital b))) := by
  refine fn_of c100 rfl (by simp only [Env.of, List.zipIdx, List.map]; rfl) ?_
  repeat' (first | refine dr ?_ | (refine ds ?_ ?_ <;> intro hb) | ((with_reducible refine dbm ?_); first | exact db_nil | refine dbc ?_ ?_) | ((with_reducible refine natle ?_); first | assumption | omega | (simp; omega)))
  all_goals simp [isCapital_int, *]
theorem r_part (b : UInt8) : F Γd 90 [.d (.int .u8 b.toNat)] (.d (.bool (isPart b))) := by
  refine fn_of c90 rfl (by simp only [Env.of, List.zipIdx, List.map]; rfl) ?_
  repeat' (first | ((with_reducible refine wcm ?_); first | refine cF (r_small _) ?_ | refine cF (r_capital _) ?_ | refine cF (r_digit _) ?_) | refine dr ?_ | (refine ds ?_ ?_ <;> intro hb) | ((with_reducible refine dbm ?_); first | exact db_nil | refine dbc ?_ ?_) | ((with_reducible refine natle ?_); first | assumption | omega | (simp; omega)))
  all_goals simp [isPart_int, *]
theorem r_has (l : List (List UInt8)) (s : List UInt8) (hl : l.length ≤ 4294967296) : F Γd 64 [.d (.slice (strsD l)), .d (.str s)] (.d (.bool (decide (s ∈ l)))) := by
  refine fn_of c64 rfl (by simp only [Env.of, List.zipIdx, List.map]; rfl) ?_
  have hlen := strsD_length l
  repeat' (first | refine dr ?_ | (refine ds ?_ ?_ <;> intro hb) | ((with_reducible refine dbm ?_); first | exact db_nil | refine dbc ?_ ?_) | ((with_reducible refine natle ?_); first | assumption | omega | (simp; omega)))
  refine LP_for l (fun i _ => [(0, .d (.slice (strsD l))), (1, .d (.str s)), (5, .d (.int .i64 i))]) (fun _ _ => []) (fun i (_ : Unit) => ∀ x ∈ l.take i, x ≠ s) () rfl rfl (by simp) ?_ ?_
  · rintro i x _ hi hlt hI ih
    have hy := strsD_at hi
    repeat' (first | refine dr ?_ | (refine ds ?_ ?_ <;> intro hb) | ((with_reducible refine dbm ?_); first | exact db_nil | refine dbc ?_ ?_) | ((with_reducible refine natle ?_); first | assumption | omega | (simp; omega)))
    · have : s ∈ l := by rw [← ‹x = s›]; exact List.mem_of_getElem? hi
      simp [this]
    · refine LP_at ?_ rfl (ih () fun y hy => ?_)
      · (first | (simp [Env.shr, Env.get, PV.exp, PV.ids, PV.ids.idsL]; done) | simp [Env.shr, Env.get, PV.exp, PV.ids, PV.ids.idsL, *])
      · rw [List.take_add_one, List.mem_append, hi] at hy
        rcases hy with hy | hy
        · exact hI y hy
        · simp at hy; subst hy; assumption
  · rintro _ hI
    repeat' (first | refine dr ?_ | (refine ds ?_ ?_ <;> intro hb) | ((with_reducible refine dbm ?_); first | exact db_nil | refine dbc ?_ ?_) | ((with_reducible refine natle ?_); first | assumption | omega | (simp; omega)))
    rw [List.take_length] at hI
    have : s ∉ l := fun h => hI s h rfl
    simp [this]
theorem r_Keywords : F Γd 37 [] (.d (.slice (strsD keywords))) := by
  refine fn_of c37 rfl (by simp only [Env.of, List.zipIdx, List.map]; rfl) ?_
  repeat' (first | refine dr ?_ | (refine ds ?_ ?_ <;> intro hb) | ((with_reducible refine dbm ?_); first | exact db_nil | refine dbc ?_ ?_) | ((with_reducible refine natle ?_); first | assumption | omega | (simp; omega)))
  exact ⟨rfl, rfl⟩
theorem r_signs : F Γd 65 [] (.d (.slice (strsD signs))) := by
  refine fn_of c65 rfl (by simp only [Env.of, List.zipIdx, List.map]; rfl) ?_
  repeat' (first | refine dr ?_ | (refine ds ?_ ?_ <;> intro hb) | ((with_reducible refine dbm ?_); first | exact db_nil | refine dbc ?_ ?_) | ((with_reducible refine natle ?_); first | assumption | omega | (simp; omega)))
  exact ⟨rfl, rfl⟩
theorem r_run (s : List UInt8) (n : Nat) (hs : s.length ≤ 4294967296) (hn : n ≤ s.length) : F Γd 66 [.d (.str s), .d (.int .i64 n)] (.d (.int .i64 ((s.drop n).takeWhile isPart).length)) := by
  refine fn_of c66 rfl (by simp only [Env.of, List.zipIdx, List.map]; rfl) ?_
  repeat' (first | refine dr ?_ | (refine ds ?_ ?_ <;> intro hb) | ((with_reducible refine dbm ?_); first | exact db_nil | refine dbc ?_ ?_) | ((with_reducible refine natle ?_); first | assumption | omega | (simp; omega)))
  refine LP_for (s.drop n) (fun i _ => [(0, .d (.str s)), (1, .d (.int .i64 n)), (5, .d (.int .i64 i))]) (fun _ _ => []) (fun i (_ : Unit) => ∀ b ∈ (s.drop n).take i, isPart b = true) () rfl rfl (by simp) ?_ ?_
  · rintro i b _ hi hlt hI ih
    have hx : s[n + i]? = some b := by rw [List.getElem?_drop] at hi; exact hi
    have hx' : s[((n : Int) + (i : Int)).toNat]? = some b := by rw [show ((n : Int) + (i : Int)).toNat = n + i by omega]; exact hx
    have hlt' : n + i < s.length := (List.getElem?_eq_some_iff.1 hx).1
    repeat' (first | ((with_reducible refine wcm ?_); first | refine cF (r_part _) ?_) | refine dr ?_ | (refine ds ?_ ?_ <;> intro hb) | ((with_reducible refine dbm ?_); first | exact db_nil | refine dbc ?_ ?_) | ((with_reducible refine natle ?_); first | assumption | omega | (simp; omega)))
    · refine LP_at ?_ rfl (ih () fun c hc => ?_)
      · (first | (simp [Env.shr, Env.get, PV.exp, PV.ids, PV.ids.idsL]; done) | simp [Env.shr, Env.get, PV.exp, PV.ids, PV.ids.idsL, *])
      · rw [List.take_add_one, List.mem_append, hi] at hc
        rcases hc with hc | hc
        · exact hI c hc
        · simp at hc; subst hc; assumption
    · rw [takeWhile_at hI (by omega) (fun c hc => by rw [hi] at hc; cases hc; assumption)]
      simp
  · rintro _ hI
    have hl : (s.drop n).length = s.length - n := List.length_drop
    repeat' (first | refine dr ?_ | (refine ds ?_ ?_ <;> intro hb) | ((with_reducible refine dbm ?_); first | exact db_nil | refine dbc ?_ ?_) | ((with_reducible refine natle ?_); first | assumption | omega | (simp; omega)))
    rw [takeWhile_at (n := (s.drop n).length) hI (by omega) (fun c hc => by simp at hc)]
    simp
end Go.Plane
end
section
set_option linter.unusedVariables false
set_option linter.unusedSimpArgs false
set_option maxRecDepth 100000
set_option maxHeartbeats 2000000
namespace Go.Plane
open Go Go.Proofs
def aggI (p : Int × Int) : PV := .agg [.int .i64 p.1, .int .i64 p.2]
def wordR (s : List UInt8) : Int × Int :=
  if s ∈ keywords ∨ s ∈ specials then (3, 0) else if s ∈ lowers then (0, 4)
  else if s.any isSmall = true ∧ s.any isCapital = true then (0, 2) else if (20 : Int) < s.length then (0, 3) else if s.any isSmall = true then (1, 0) else (2, 0)
theorem any_take_succ {p : UInt8 → Bool} {s : List UInt8} {i : Nat} {b : UInt8} (h : s[i]? = some b) : (s.take (i + 1)).any p = ((s.take i).any p || p b) := by
  rw [List.take_add_one, List.any_append, h]; simp
theorem r_word (s : List UInt8) (hs : s.length ≤ 4294967296) : F Γd 69 [.d (.str s)] (aggI (wordR s)) := by
  refine fn_of c69 rfl (by simp only [Env.of, List.zipIdx, List.map]; rfl) ?_
  have h1 : F Γd 64 [.d (.slice (strsD keywords)), .d (.str s)] _ := r_has keywords s (by decide)
  have h2 : F Γd 64 [.d (.slice [[.str [84, 114, 117, 101]], [.str [70, 97, 108, 115, 101]], [.str [86, 111, 105, 100]], [.str [67, 117, 114, 114, 101, 110, 116]], [.str [82, 101, 115, 117, 108, 116]]]), .d (.str s)] _ := r_has specials s (by decide)
  have h3 : F Γd 64 [.d (.slice [[.str [116, 114, 117, 101]], [.str [102, 97, 108, 115, 101]], [.str [118, 111, 105, 100]], [.str [99, 117, 114, 114, 101, 110, 116]], [.str [114, 101, 115, 117, 108, 116]]]), .d (.str s)] _ := r_has lowers s (by decide)
  repeat' (first | ((with_reducible refine wcm ?_); first | refine cF (r_Keywords) ?_ | refine cF (h1) ?_ | refine cF (h2) ?_ | refine cF (h3) ?_) | refine dr ?_ | (refine ds ?_ ?_ <;> intro hb) | ((with_reducible refine dbm ?_); first | exact db_nil | refine dbc ?_ ?_) | ((with_reducible refine natle ?_); first | assumption | omega | (simp; omega)))
  all_goals try (simp [wordR, aggI, *]; done)
  refine LP_for s (fun i (a : Bool × Bool) => [(0, .d (.str s)), (2, .ptr 0 0), (3, .d (.bool a.1)), (4, .d (.bool a.2)), (5, .d (.int .i64 i))]) (fun _ _ => [.box 73 [.d (.int .i64 0), .d (.int .i64 0)]])
    (fun i a => a = ((s.take i).any isSmall, (s.take i).any isCapital)) (false, false) rfl rfl (by simp) ?_ ?_
  · rintro i b ⟨lo, hi⟩ hx hlt hI ih
    simp only [Prod.mk.injEq] at hI
    have t1 := any_take_succ (p := isSmall) hx
    have t2 := any_take_succ (p := isCapital) hx
    rw [← hI.1] at t1
    rw [← hI.2] at t2
    clear hI h1 h2 h3
    repeat' (first | ((with_reducible refine wcm ?_); first | refine cF (r_small _) ?_ | refine cF (r_capital _) ?_) | refine dr ?_ | (refine ds ?_ ?_ <;> intro hb) | ((with_reducible refine dbm ?_); first | exact db_nil | refine dbc ?_ ?_) | ((with_reducible refine natle ?_); first | assumption | omega | (simp; omega)))
    all_goals
      refine LP_at ?_ rfl (ih _ rfl)
      (first | (simp [Env.shr, Env.get, PV.exp, PV.ids, PV.ids.idsL]; done) | simp [Env.shr, Env.get, PV.exp, PV.ids, PV.ids.idsL, *])
  · rintro ⟨lo, hi⟩ hI
    simp only [Prod.mk.injEq, List.take_length] at hI
    obtain ⟨rfl, rfl⟩ := hI
    clear h1 h2 h3
    repeat' (first | refine dr ?_ | (refine ds ?_ ?_ <;> intro hb) | ((with_reducible refine dbm ?_); first | exact db_nil | refine dbc ?_ ?_) | ((with_reducible refine natle ?_); first | assumption | omega | (simp; omega)))
    all_goals simp [wordR, aggI, *]
end Go.Plane
end
section
set_option linter.unusedVariables false
set_option linter.unusedSimpArgs false
set_option maxRecDepth 100000
set_option maxHeartbeats 2000000
namespace Go.Plane
open Go Go.Proofs
theorem r_number (c : UInt8) (r : List UInt8) (hs : (c :: r).length ≤ 4294967296) : F Γd 68 [.d (.str (c :: r))] (aggI (numberM (c :: r))) := by
  refine fn_of c68 rfl (by simp only [Env.of, List.zipIdx, List.map]; rfl) ?_
  have hx0 : (c :: r)[0]? = some c := rfl
  have hl1 : 1 ≤ (c :: r).length := by simp
  have hbad : (c :: r)[0]? = some 48 ↔ (c.toNat : Int) = 48 := by rw [hx0, Option.some.injEq]; exact (byteN c 48 (by decide)).symm
  generalize hS : c :: r = s at *
  repeat' (first | refine dr ?_ | (refine ds ?_ ?_ <;> intro hb) | ((with_reducible refine dbm ?_); first | exact db_nil | refine dbc ?_ ?_) | ((with_reducible refine natle ?_); first | assumption | omega | (simp; omega)))
  refine LP_for s (fun i _ => [(0, .d (.str s)), (2, .ptr 0 0), (3, .d (.int .i64 i))]) (fun _ _ => [.box 33 [.d (.int .i64 0), .d (.int .i64 0)]])
    (fun i (_ : Unit) => ∀ b ∈ s.take i, isDigit b = true) () rfl rfl (by simp) ?_ ?_
  · rintro i b _ hx hlt hI ih
    repeat' (first | ((with_reducible refine wcm ?_); first | refine cF (r_digit _) ?_) | refine dr ?_ | (refine ds ?_ ?_ <;> intro hb) | ((with_reducible refine dbm ?_); first | exact db_nil | refine dbc ?_ ?_) | ((with_reducible refine natle ?_); first | assumption | omega | (simp; omega)))
    · have : s.all isDigit = false := by
        rw [Bool.eq_false_iff]
        intro h
        have := List.all_eq_true.1 h b (List.mem_of_getElem? hx)
        simp_all
      have hm : numberM s = (0, 2) := by unfold numberM; rw [if_pos (.inl this)]
      simp [hm, aggI]
    · refine LP_at ?_ rfl (ih () fun y hy => ?_)
      · (first | (simp [Env.shr, Env.get, PV.exp, PV.ids, PV.ids.idsL]; done) | simp [Env.shr, Env.get, PV.exp, PV.ids, PV.ids.idsL, *])
      · rw [List.take_add_one, List.mem_append, hx] at hy
        rcases hy with hy | hy
        · exact hI y hy
        · simp at hy; subst hy; assumption
  rintro _ hI
  rw [List.take_length] at hI
  have hd : s.all isDigit = true := List.all_eq_true.2 hI
  by_cases hg : (c.toNat : Int) = 48 ∧ (1 : Int) < s.length
  · have hm : numberM s = (0, 2) := by unfold numberM; rw [if_pos (.inr ⟨by omega, hbad.2 hg.1⟩)]
    obtain ⟨hg1, hg2⟩ := hg
    clear hS hbad
    repeat' (first | refine dr ?_ | (refine ds ?_ ?_ <;> intro hb) | ((with_reducible refine dbm ?_); first | exact db_nil | refine dbc ?_ ?_) | ((with_reducible refine natle ?_); first | assumption | omega | (simp; omega)))
    simp [hm, aggI]
  have hm : numberM s = valM 0 s := by
    unfold numberM
    rw [if_neg]
    rintro (h | h)
    · rw [hd] at h; cases h
    · exact hg ⟨hbad.1 h.2, by omega⟩
  have hgood : (c.toNat : Int) ≠ 48 ∨ ¬(1 : Int) < s.length := by
    rcases Decidable.em ((c.toNat : Int) = 48) with h | h
    · exact .inr fun h2 => hg ⟨h, h2⟩
    · exact .inl h
  clear hS hbad hg
  repeat' (first | refine dr ?_ | (refine ds ?_ ?_ <;> intro hb) | ((with_reducible refine dbm ?_); first | exact db_nil | refine dbc ?_ ?_) | ((with_reducible refine natle ?_); first | assumption | omega | (simp; omega)))
  · refine LP_for s (fun i (n : Int) => [(0, .d (.str s)), (2, .ptr 0 0), (4, .d (.int .i64 n)), (5, .d (.int .i64 i))]) (fun _ _ => [.box 33 [.d (.int .i64 0), .d (.int .i64 0)]])
      (fun i n => 0 ≤ n ∧ n ≤ 1099511627776 ∧ valM n (s.drop i) = valM 0 s) 0 rfl rfl ⟨by decide, by decide, rfl⟩ ?_ ?_
    · rintro i b n hx hlt ⟨h2, h3, h4⟩ ih
      obtain ⟨hb1, hb2⟩ := digit_bounds (hI b (List.mem_of_getElem? hx))
      have hv : valM n (s.drop i) = if 1099511627776 < 10 * n + ((b.toNat : Int) - 48) then (0, 3) else valM (10 * n + ((b.toNat : Int) - 48)) (s.drop (i + 1)) := by
        rw [List.drop_eq_getElem_cons hlt, valM]
        rw [show s[i] = b from by have := List.getElem?_eq_getElem hlt; rw [hx] at this; exact (Option.some.inj this).symm]
      have e1 : 10 * n + (b.toNat : Int) - 48 = 10 * n + ((b.toNat : Int) - 48) := by omega
      have hz : b.toNat < 256 := UInt8.toNat_lt b
      repeat' (first | refine dr ?_ | (refine ds ?_ ?_ <;> intro hb) | ((with_reducible refine dbm ?_); first | exact db_nil | refine dbc ?_ ?_) | ((with_reducible refine natle ?_); first | assumption | omega | (simp; omega)))
      · rw [if_pos (by omega)] at hv
        simp [hm, aggI, ← h4, hv]
      · rw [if_neg (by omega)] at hv
        refine LP_at ?_ rfl (ih (10 * n + ((b.toNat : Int) - 48)) ⟨by omega, by omega, by rw [← hv]; exact h4⟩)
        simp [Env.shr, Env.get, PV.exp, PV.ids, PV.ids.idsL, e1]
    · rintro n ⟨h2, h3, h4⟩
      rw [List.drop_length] at h4
      repeat' (first | refine dr ?_ | (refine ds ?_ ?_ <;> intro hb) | ((with_reducible refine dbm ?_); first | exact db_nil | refine dbc ?_ ?_) | ((with_reducible refine natle ?_); first | assumption | omega | (simp; omega)))
      simp [hm, aggI, ← h4, valM]
  · refine LP_for s (fun i (n : Int) => [(0, .d (.str s)), (2, .ptr 0 0), (4, .d (.int .i64 n)), (5, .d (.int .i64 i))]) (fun _ _ => [.box 33 [.d (.int .i64 0), .d (.int .i64 0)]])
      (fun i n => 0 ≤ n ∧ n ≤ 1099511627776 ∧ valM n (s.drop i) = valM 0 s) 0 rfl rfl ⟨by decide, by decide, rfl⟩ ?_ ?_
    · rintro i b n hx hlt ⟨h2, h3, h4⟩ ih
      obtain ⟨hb1, hb2⟩ := digit_bounds (hI b (List.mem_of_getElem? hx))
      have hv : valM n (s.drop i) = if 1099511627776 < 10 * n + ((b.toNat : Int) - 48) then (0, 3) else valM (10 * n + ((b.toNat : Int) - 48)) (s.drop (i + 1)) := by
        rw [List.drop_eq_getElem_cons hlt, valM]
        rw [show s[i] = b from by have := List.getElem?_eq_getElem hlt; rw [hx] at this; exact (Option.some.inj this).symm]
      have e1 : 10 * n + (b.toNat : Int) - 48 = 10 * n + ((b.toNat : Int) - 48) := by omega
      have hz : b.toNat < 256 := UInt8.toNat_lt b
      repeat' (first | refine dr ?_ | (refine ds ?_ ?_ <;> intro hb) | ((with_reducible refine dbm ?_); first | exact db_nil | refine dbc ?_ ?_) | ((with_reducible refine natle ?_); first | assumption | omega | (simp; omega)))
      · rw [if_pos (by omega)] at hv
        simp [hm, aggI, ← h4, hv]
      · rw [if_neg (by omega)] at hv
        refine LP_at ?_ rfl (ih (10 * n + ((b.toNat : Int) - 48)) ⟨by omega, by omega, by rw [← hv]; exact h4⟩)
        simp [Env.shr, Env.get, PV.exp, PV.ids, PV.ids.idsL, e1]
    · rintro n ⟨h2, h3, h4⟩
      rw [List.drop_length] at h4
      repeat' (first | refine dr ?_ | (refine ds ?_ ?_ <;> intro hb) | ((with_reducible refine dbm ?_); first | exact db_nil | refine dbc ?_ ?_) | ((with_reducible refine natle ?_); first | assumption | omega | (simp; omega)))
      simp [hm, aggI, ← h4, valM]
end Go.Plane
end
section
set_option linter.unusedVariables false
set_option linter.unusedSimpArgs false
set_option maxRecDepth 100000
set_option maxHeartbeats 2000000
namespace Go.Plane
open Go Go.Proofs
theorem part_cases {b : UInt8} (h : isPart b = true) : isSmall b = true ∨ isCapital b = true ∨ isDigit b = true ∨ b = 95 := by
  simp only [isPart, Bool.or_eq_true, beq_iff_eq] at h
  rcases h with ((h | h) | h) | h
  · exact .inl h
  · exact .inr (.inl h)
  · exact .inr (.inr (.inl h))
  · exact .inr (.inr (.inr h))
theorem takeWhile_all {p : UInt8 → Bool} {s : List UInt8} (h : (s.takeWhile p).length = s.length) : ∀ b ∈ s, p b = true := by
  induction s with
  | nil => simp
  | cons c s ih =>
    intro b hb
    by_cases hc : p c = true
    · rw [List.takeWhile_cons, if_pos hc] at h
      rcases List.mem_cons.1 hb with rfl | hb
      · exact hc
      · exact ih (by simpa using h) b hb
    · rw [List.takeWhile_cons, if_neg hc] at h
      simp at h
theorem wordR_eq {b : UInt8} {r : List UInt8} (hall : ∀ c ∈ b :: r, isPart c = true) (hd : isDigit b = false) (hu : b ≠ 95) : wordR (b :: r) = wordM (b :: r) := by
  have hp : (b :: r).all (fun c => isPart c && !isCapital c) = !(b :: r).any isCapital := by
    rw [Bool.eq_iff_iff, List.all_eq_true, Bool.not_eq_true', List.any_eq_false]
    exact ⟨fun h c hc => by have := h c hc; simp at this; simp [this.2], fun h c hc => by have := h c hc; simp [hall c hc, this]⟩
  have hq : (b :: r).all (fun c => isPart c && !isSmall c) = !(b :: r).any isSmall := by
    rw [Bool.eq_iff_iff, List.all_eq_true, Bool.not_eq_true', List.any_eq_false]
    exact ⟨fun h c hc => by have := h c hc; simp at this; simp [this.2], fun h c hc => by have := h c hc; simp [hall c hc, this]⟩
  have hb : (b :: r).any isSmall = true ∨ (b :: r).any isCapital = true := by
    rcases part_cases (hall b (by simp)) with h | h | h | h
    · exact .inl (by simp [h])
    · exact .inr (by simp [h])
    · rw [h] at hd; cases hd
    · exact absurd h hu
  have hl : ((20 : Int) < ((b :: r).length : Int)) = (20 < (b :: r).length) := by apply propext; omega
  unfold wordR wordM
  rw [hp, hq]
  simp only [hl]
  clear hp hq hl hall
  revert hb
  generalize (b :: r).any isSmall = x
  generalize (b :: r).any isCapital = y
  cases x <;> cases y <;> simp
theorem signs_ne (s : List UInt8) : signM [] = [] := rfl
theorem signM_mem {s x : List UInt8} (h : signM s = x) (hx : x ≠ []) : x ∈ signs ∧ x.isPrefixOf s = true := by
  unfold signM at h
  cases hf : signs.find? (fun x => x.isPrefixOf s) with
  | none => rw [hf] at h; exact absurd h.symm hx
  | some y =>
    rw [hf] at h
    simp at h
    subst h
    have h1 := List.mem_of_find?_eq_some hf
    have h2 := List.find?_some hf
    exact ⟨h1, h2⟩
theorem signM_sign {s : List UInt8} (h : s ∈ signs) : signM s = s := by
  have : ∀ x ∈ signs, signM x = x := by decide
  exact this s h
theorem sign_head {b : UInt8} {r : List UInt8} (h : b :: r ∈ signs) : isPart b = false := by
  have : ∀ x ∈ signs, ∀ c, x.head? = some c → isPart c = false := by decide
  exact this _ h b rfl
theorem mem_signs (b : UInt8) (r : List UInt8) : b :: r ∈ signs ↔ signM (b :: r) = b :: r :=
  ⟨signM_sign, fun h => (signM_mem h (by simp)).1⟩
theorem r_Shape (s : List UInt8) (hs : s.length ≤ 4294967296) : F Γd 33 [.d (.str s)] (aggI (shapeM s)) := by
  refine fn_of c33 rfl (by simp only [Env.of, List.zipIdx, List.map]; rfl) ?_
  have hh := r_has signs s (by decide)
  cases s with
  | nil =>
    have h0 : decide (([] : List UInt8) ∈ signs) = false := by decide
    rw [h0] at hh
    repeat' (first | ((with_reducible refine wcm ?_); first | refine cF (r_signs) ?_ | refine cF (hh) ?_) | refine dr ?_ | (refine ds ?_ ?_ <;> intro hb) | ((with_reducible refine dbm ?_); first | exact db_nil | refine dbc ?_ ?_) | ((with_reducible refine natle ?_); first | assumption | omega | (simp; omega)))
    exact ⟨rfl, rfl⟩
  | cons b r =>
    have hm : decide (b :: r ∈ signs) = decide (signM (b :: r) = b :: r) := by rw [decide_eq_decide]; exact mem_signs b r
    rw [hm] at hh
    have hr : F Γd 66 [.d (.str (b :: r)), .d (.int .i64 0)] (.d (.int .i64 (List.takeWhile isPart (b :: r)).length)) := r_run (b :: r) 0 hs (by simp)
    have hx0 : (b :: r)[0]? = some b := rfl
    have htw : ((List.takeWhile isPart (b :: r)).length : Int) ≤ r.length + 1 := by have := (List.takeWhile_sublist (p := isPart) (l := b :: r)).length_le; simp only [List.length_cons] at this; omega
    have hsg : signM (b :: r) = b :: r → isPart b = false := fun h => sign_head ((mem_signs b r).2 h)
    have htw2 : isPart b = false → (List.takeWhile isPart (b :: r)).length = 0 := fun h => by rw [List.takeWhile_cons, if_neg (by simp [h])]; rfl
    have hwd : ((List.takeWhile isPart (b :: r)).length : Int) = r.length + 1 → isDigit b = false → (b.toNat : Int) ≠ 95 → wordR (b :: r) = wordM (b :: r) := fun h1 h2 h3 =>
      wordR_eq (takeWhile_all (by simp only [List.length_cons]; omega)) h2 (fun h => h3 ((byteN b 95 (by decide)).2 h))
    clear hm
    have htl : (((List.takeWhile isPart (b :: r)).length : Int) = (r.length : Int) + 1) = ¬(((List.takeWhile isPart (b :: r)).length : Int) < (r.length : Int) + 1) := by apply propext; omega
    have hN := r_number b r hs
    have hW := r_word (b :: r) hs
    have hsh := shapeM_cons b r
    simp only [htl] at hsh hwd
    have hgo : signM (b :: r) = b :: r → shapeM (b :: r) = (5, 0) := fun h => by
      rw [hsh, if_neg, if_neg, if_pos h] <;> (intro h'; have := htw2 (hsg h); omega)
    clear htl htw2 hsg hx0
    repeat' (first | ((with_reducible refine wcm ?_); first | refine cF (r_signs) ?_ | refine cF (hh) ?_ | refine cF (hr) ?_ | refine cF (r_digit _) ?_ | refine cF (hN) ?_ | refine cF (hW) ?_) | refine dr ?_ | (refine ds ?_ ?_ <;> intro hb) | ((with_reducible refine dbm ?_); first | exact db_nil | refine dbc ?_ ?_) | ((with_reducible refine natle ?_); first | assumption | omega | (simp; omega)))
    all_goals push_cast at *
    all_goals try (simp [aggI, hgo, *]; done)
    have hd95 : isDigit b = false := by rw [isDigit_int, ‹(b.toNat : Int) = 95›]; rfl
    simp [aggI, *]
theorem r_Value (s : List UInt8) (hs : s.length ≤ 4294967296) : F Γd 35 [.d (.str s)] (aggI (valueM s)) := by
  refine fn_of c35 rfl (by simp only [Env.of, List.zipIdx, List.map]; rfl) ?_
  have hS := r_Shape s hs
  cases s with
  | nil =>
    repeat' (first | ((with_reducible refine wcm ?_); first | refine cF (hS) ?_) | refine dr ?_ | (refine ds ?_ ?_ <;> intro hb) | ((with_reducible refine dbm ?_); first | exact db_nil | refine dbc ?_ ?_) | ((with_reducible refine natle ?_); first | assumption | omega | (simp; omega)))
    all_goals simp_all [valueM, aggI, shapeM]
  | cons b r =>
    have hN := r_number b r hs
    repeat' (first | ((with_reducible refine wcm ?_); first | refine cF (hS) ?_ | refine cF (hN) ?_) | refine dr ?_ | (refine ds ?_ ?_ <;> intro hb) | ((with_reducible refine dbm ?_); first | exact db_nil | refine dbc ?_ ?_) | ((with_reducible refine natle ?_); first | assumption | omega | (simp; omega)))
    all_goals simp [valueM, aggI, *]
end Go.Plane
end
section
set_option linter.unusedVariables false
set_option linter.unusedSimpArgs false
set_option maxRecDepth 100000
set_option maxHeartbeats 2000000
namespace Go.Plane
open Go Go.Proofs
abbrev Tok.kt (t : Tok) : Int × List UInt8 := (t.k, t.s)
def sameK (a b : List Tok) : Bool := decide (a.map Tok.kt = b.map Tok.kt)
theorem sameK_len {a b : List Tok} (h : a.length ≠ b.length) : sameK a b = false := by
  unfold sameK
  rw [decide_eq_false_iff_not]
  intro he
  have := congrArg List.length he
  simp at this
  exact h this
theorem list_ext_take {α β : Type} (f : α → β) {a b : List α} {n : Nat} (hl : a.length = b.length) (hn : a.length ≤ n) (h : (a.take n).map f = (b.take n).map f) : a.map f = b.map f := by
  rwa [List.take_of_length_le hn, List.take_of_length_le (by omega)] at h
theorem map_take_succ {α β : Type} (f : α → β) {a b : List α} {i : Nat} {x y : α} (hx : a[i]? = some x) (hy : b[i]? = some y) (h : (a.take i).map f = (b.take i).map f) (he : f x = f y) :
    (a.take (i + 1)).map f = (b.take (i + 1)).map f := by
  rw [List.take_add_one, List.take_add_one, List.map_append, List.map_append, h, hx, hy]; simp [he]
theorem map_ne {α β : Type} (f : α → β) {a b : List α} {i : Nat} {x y : α} (hx : a[i]? = some x) (hy : b[i]? = some y) (he : f x ≠ f y) : a.map f ≠ b.map f := fun h => by
  have := congrArg (fun l => l[i]?) h
  simp [hx, hy] at this
  exact he this
theorem r_SameKinds (a b : List Tok) (ha : a.length ≤ 4294967296) (hb : b.length ≤ 4294967296) : F Γd 29 [.d (.slice (toksD a)), .d (.slice (toksD b))] (.d (.bool (sameK a b))) := by
  refine fn_of c29 rfl (by simp only [Env.of, List.zipIdx, List.map]; rfl) ?_
  have l1 := toksD_length a
  have l2 := toksD_length b
  by_cases hl : a.length = b.length
  case neg =>
    have hm := sameK_len hl
    repeat' (first | refine dr ?_ | (refine ds ?_ ?_ <;> intro hb) | ((with_reducible refine dbm ?_); first | exact db_nil | refine dbc ?_ ?_) | ((with_reducible refine natle ?_); first | assumption | omega | (simp; omega)))
    rw [hm]
    exact ⟨rfl, rfl⟩
  have hl' : (a.length : Int) = b.length := by omega
  repeat' (first | refine dr ?_ | (refine ds ?_ ?_ <;> intro hb) | ((with_reducible refine dbm ?_); first | exact db_nil | refine dbc ?_ ?_) | ((with_reducible refine natle ?_); first | assumption | omega | (simp; omega)))
  refine LP_for a (fun i _ => [(0, .d (.slice (toksD a))), (1, .d (.slice (toksD b))), (5, .d (.int .i64 i))]) (fun _ _ => []) (fun i (_ : Unit) => (a.take i).map Tok.kt = (b.take i).map Tok.kt) () rfl rfl (by simp) ?_ ?_
  · rintro i x _ hi hlt hI ih
    have hy := List.getElem?_eq_getElem (show i < b.length by omega)
    generalize b[i] = y at hy
    have r1 := toksD_at hi
    have r2 := toksD_at hy
    clear hl
    repeat' (first | refine dr ?_ | (refine ds ?_ ?_ <;> intro hb) | ((with_reducible refine dbm ?_); first | exact db_nil | refine dbc ?_ ?_) | ((with_reducible refine natle ?_); first | assumption | omega | (simp; omega)))
    all_goals first
      | (refine LP_at ?_ rfl (ih () (map_take_succ Tok.kt hi hy hI (by simp [Tok.kt, *])))
         (first | (simp [Env.shr, Env.get, PV.exp, PV.ids, PV.ids.idsL]; done) | simp [Env.shr, Env.get, PV.exp, PV.ids, PV.ids.idsL, *]))
      | (have : sameK a b = false := decide_eq_false (map_ne Tok.kt hi hy (by simp [Tok.kt, *]))
         simp [this])
  · rintro _ hI
    have : sameK a b = true := decide_eq_true (list_ext_take Tok.kt hl (Nat.le_refl _) hI)
    repeat' (first | refine dr ?_ | (refine ds ?_ ?_ <;> intro hb) | ((with_reducible refine dbm ?_); first | exact db_nil | refine dbc ?_ ?_) | ((with_reducible refine natle ?_); first | assumption | omega | (simp; omega)))
    simp [this]
theorem r_SameTokens (a b : List Tok) (ha : a.length ≤ 4294967296) (hb : b.length ≤ 4294967296) : F Γd 24 [.d (.slice (toksD a)), .d (.slice (toksD b))] (.d (.bool (decide (a = b)))) := by
  refine fn_of c24 rfl (by simp only [Env.of, List.zipIdx, List.map]; rfl) ?_
  have l1 := toksD_length a
  have l2 := toksD_length b
  by_cases hl : a.length = b.length
  case neg =>
    have hm : decide (a = b) = false := decide_eq_false (fun h => hl (by rw [h]))
    repeat' (first | refine dr ?_ | (refine ds ?_ ?_ <;> intro hb) | ((with_reducible refine dbm ?_); first | exact db_nil | refine dbc ?_ ?_) | ((with_reducible refine natle ?_); first | assumption | omega | (simp; omega)))
    rw [hm]
    exact ⟨rfl, rfl⟩
  have hl' : (a.length : Int) = b.length := by omega
  repeat' (first | refine dr ?_ | (refine ds ?_ ?_ <;> intro hb) | ((with_reducible refine dbm ?_); first | exact db_nil | refine dbc ?_ ?_) | ((with_reducible refine natle ?_); first | assumption | omega | (simp; omega)))
  refine LP_for a (fun i _ => [(0, .d (.slice (toksD a))), (1, .d (.slice (toksD b))), (5, .d (.int .i64 i))]) (fun _ _ => []) (fun i (_ : Unit) => (a.take i).map id = (b.take i).map id) () rfl rfl (by simp) ?_ ?_
  · rintro i x _ hi hlt hI ih
    have hy := List.getElem?_eq_getElem (show i < b.length by omega)
    generalize b[i] = y at hy
    have r1 := toksD_at hi
    have r2 := toksD_at hy
    have hxy : (x.k == y.k && (x.s == y.s && (x.l == y.l && x.c == y.c))) = decide (x = y) := by
      rw [Bool.eq_iff_iff]; cases x; cases y; simp
    clear hl
    repeat' (first | refine dr ?_ | (refine ds ?_ ?_ <;> intro hb) | ((with_reducible refine dbm ?_); first | exact db_nil | refine dbc ?_ ?_) | ((with_reducible refine natle ?_); first | assumption | omega | (simp; omega)))
    all_goals first
      | (refine LP_at ?_ rfl (ih () (map_take_succ id hi hy hI (by simpa using ‹x = y›)))
         (first | (simp [Env.shr, Env.get, PV.exp, PV.ids, PV.ids.idsL]; done) | simp [Env.shr, Env.get, PV.exp, PV.ids, PV.ids.idsL, *]))
      | (have : decide (a = b) = false := decide_eq_false (fun h => map_ne id hi hy (by simpa using ‹¬x = y›) (by rw [h]))
         simp [this])
  · rintro _ hI
    have : decide (a = b) = true := decide_eq_true (by have := list_ext_take id hl (Nat.le_refl _) hI; simpa using this)
    repeat' (first | refine dr ?_ | (refine ds ?_ ?_ <;> intro hb) | ((with_reducible refine dbm ?_); first | exact db_nil | refine dbc ?_ ?_) | ((with_reducible refine natle ?_); first | assumption | omega | (simp; omega)))
    simp [this]
end Go.Plane
end
section
set_option linter.unusedVariables false
set_option linter.unusedSimpArgs false
set_option maxRecDepth 100000
set_option maxHeartbeats 2000000
namespace Go.Plane
open Go Go.Proofs
theorem splitL_none (c : UInt8) : ∀ (u : List UInt8), (∀ b ∈ u, b ≠ c) → splitL c u = [u]
  | [], _ => rfl
  | b :: u, h => by
    have ih := splitL_none c u (fun x hx => h x (by simp [hx]))
    simp [splitL, h b (by simp), ih]
theorem splitL_cut (c : UInt8) : ∀ (u v : List UInt8), (∀ b ∈ u, b ≠ c) → splitL c (u ++ c :: v) = u :: splitL c v
  | [], v, _ => by simp [splitL]
  | b :: u, v, h => by
    have ih := splitL_cut c u v (fun x hx => h x (by simp [hx]))
    simp [splitL, h b (by simp), ih]
theorem drop_cut {s : List UInt8} {m i : Nat} {b : UInt8} (hm : m ≤ i) (h : s[i]? = some b) : s.drop m = (s.take i).drop m ++ b :: s.drop (i + 1) := by
  have hi := (List.getElem?_eq_some_iff.1 h).1
  have : s.drop i = b :: s.drop (i + 1) := by
    rw [List.drop_eq_getElem_cons hi]
    rw [show s[i] = b from (List.getElem?_eq_some_iff.1 h).2]
  rw [← this, List.drop_take]
  conv => lhs; rw [← List.take_append_drop (i - m) (s.drop m)]
  rw [List.drop_drop, show m + (i - m) = i by omega]
theorem strsD_append (a b : List (List UInt8)) : strsD (a ++ b) = strsD a ++ strsD b := by simp [strsD]
theorem r_lines (s : List UInt8) (hs : s.length ≤ 1000000000) : F Γd 41 [.d (.str s)] (.d (.slice (strsD (splitL 10 s)))) := by
  refine fn_of c41 rfl (by simp only [Env.of, List.zipIdx, List.map]; rfl) ?_
  repeat' (first | refine dr ?_ | (refine ds ?_ ?_ <;> intro hb) | ((with_reducible refine dbm ?_); first | exact db_nil | refine dbc ?_ ?_) | ((with_reducible refine natle ?_); first | assumption | omega | (simp; omega)))
  refine LP_for s (fun i (a : Nat × List (List UInt8)) => [(0, .d (.str s)), (3, .lref 0 (strsD a.2).length), (4, .d (.int .i64 a.1)), (5, .d (.int .i64 i))]) (fun _ a => [.lst (9, 1) (strsD a.2)])
    (fun i a => a.1 ≤ i ∧ a.2.length ≤ i ∧ a.2 ++ splitL 10 (s.drop a.1) = splitL 10 s ∧ ∀ b ∈ (s.take i).drop a.1, b ≠ 10) (0, []) rfl rfl ⟨Nat.le_refl _, by simp, by simp, by simp⟩ ?_ ?_
  · rintro i b ⟨m, out⟩ hx hlt ⟨h1, h2, h3, h4⟩ ih
    simp only at h1 h2 h3 h4
    have l1 := strsD_length out
    repeat' (first | refine dr ?_ | (refine ds ?_ ?_ <;> intro hb) | ((with_reducible refine dbm ?_); first | exact db_nil | refine dbc ?_ ?_) | ((with_reducible refine natle ?_); first | assumption | omega | (simp; omega)))
    · have hb10 : b = 10 := (byteN b 10 (by decide)).1 ‹_›
      refine LP_at ?_ ?_ (ih (i + 1, out ++ [(s.take i).drop m]) ⟨Nat.le_refl _, by simp; omega, ?_, by simp⟩)
      · simp [Env.shr, Env.get, PV.exp, PV.ids, PV.ids.idsL, strsD_append, strsD]
      · simp [shrink, Ent.exp, strsD_append]; rfl
      · rw [drop_cut h1 hx, hb10, splitL_cut 10 _ _ h4] at h3
        rw [← h3]; simp
    · refine LP_at ?_ ?_ (ih (m, out) ⟨by simp only; omega, by simp only; omega, h3, fun y hy => ?_⟩)
      · simp [Env.shr, Env.get, PV.exp, PV.ids, PV.ids.idsL, l1]
      · simp [shrink, Ent.exp]
      · rw [List.take_add_one, List.drop_append, List.mem_append, hx] at hy
        rcases hy with hy | hy
        · exact h4 y hy
        · have := List.mem_of_mem_drop hy
          simp at this
          subst this
          intro h
          exact absurd ((byteN y 10 (by decide)).2 h) ‹_›
  · rintro ⟨m, out⟩ ⟨h1, h2, h3, h4⟩
    simp only at h1 h2 h3 h4
    have l1 := strsD_length out
    rw [List.take_length] at h4
    rw [splitL_none 10 _ h4] at h3
    repeat' (first | refine dr ?_ | (refine ds ?_ ?_ <;> intro hb) | ((with_reducible refine dbm ?_); first | exact db_nil | refine dbc ?_ ?_) | ((with_reducible refine natle ?_); first | assumption | omega | (simp; omega)))
    rw [← h3]
    simp [strsD_append, strsD, List.take_of_length_le]
end Go.Plane
end
section
set_option linter.unusedVariables false
set_option linter.unusedSimpArgs false
set_option maxRecDepth 100000
set_option maxHeartbeats 2000000
namespace Go.Plane
open Go Go.Proofs
/-- A place, moved behind bytes. -/
def advM : Int × Int → List UInt8 → Int × Int
  | p, [] => p
  | p, b :: r => if b = 10 then advM (p.1 + 1, 1) r else advM (p.1, p.2 + 1) r
theorem advM_append (p : Int × Int) (a b : List UInt8) : advM p (a ++ b) = advM (advM p a) b := by
  induction a generalizing p with
  | nil => rfl
  | cons x a ih => simp only [List.cons_append, advM]; split <;> exact ih _
theorem lastM_nil : lastM [] = -1 := by decide
theorem bang_at {l : List UInt8} {i : Nat} (h : i < l.length) : (⟨l.toArray⟩ : ByteArray).data[i]! = l[i] := by
  rw [getElem!_pos _ i (by simpa using h)]; simp
theorem lastIdx_snoc (s : List UInt8) (b : UInt8) : ∀ k, k ≤ s.length → Lib.lastIdx ⟨(s ++ [b]).toArray⟩ 10 k = Lib.lastIdx ⟨s.toArray⟩ 10 k
  | 0, _ => rfl
  | k + 1, h => by
    have e1 := bang_at (l := s ++ [b]) (i := k) (by simp; omega)
    have e2 := bang_at (l := s) (i := k) (by omega)
    rw [List.getElem_append_left (by omega)] at e1
    unfold Lib.lastIdx
    rw [e1, e2, lastIdx_snoc s b k (by omega)]
theorem lastM_snoc (s : List UInt8) (b : UInt8) : lastM (s ++ [b]) = if b = 10 then (s.length : Int) else lastM s := by
  have e1 := bang_at (l := s ++ [b]) (i := s.length) (by simp)
  simp at e1
  have hz : (⟨(s ++ [b]).toArray⟩ : ByteArray).size = s.length + 1 := by simp [ByteArray.size]
  have hz2 : (⟨s.toArray⟩ : ByteArray).size = s.length := by simp [ByteArray.size]
  unfold lastM Lib.lastIndexByte
  rw [hz, hz2]
  have hb : ((b.toNat : Int) = 10) ↔ b = 10 := byteN b 10 (by decide)
  by_cases h : b = 10
  · rw [if_pos h, Lib.lastIdx_hit]
    simp only [List.append_assoc] at *
    rw [bang_at (by simp)]; simp [hb.2 h]
  · rw [if_neg h, Lib.lastIdx_miss]
    · exact lastIdx_snoc s b _ (Nat.le_refl _)
    · rw [bang_at (by simp)]; simpa using fun h' => h (hb.1 h')
theorem snoc_ind {P : List UInt8 → Prop} (h0 : P []) (h1 : ∀ s b, P s → P (s ++ [b])) (s : List UInt8) : P s := by
  have : ∀ r : List UInt8, P r.reverse := by
    intro r
    induction r with
    | nil => exact h0
    | cons b r ih => rw [List.reverse_cons]; exact h1 _ _ ih
  have h := this s.reverse
  rwa [List.reverse_reverse] at h
theorem advM_eq (s : List UInt8) : advM (1, 1) s = (1 + (s.count 10 : Int), (s.length : Int) - lastM s) := by
  induction s using snoc_ind with
  | h0 => simp [advM, lastM_nil]
  | h1 s b ih =>
    rw [advM_append, ih, lastM_snoc]
    simp only [advM, List.count_append, List.length_append, List.length_singleton]
    by_cases h : b = 10
    · subst h; simp; omega
    · rw [if_neg h, if_neg h, List.count_singleton]
      simp [h]; omega
def placeAtM (s : List UInt8) (off : Nat) : Int × Int := advM (1, 1) (s.take off)
theorem placeAtM_eq (s : List UInt8) (off : Nat) (h : off ≤ s.length) : placeAtM s off = (placeOfM s off).1 := by
  unfold placeAtM placeOfM
  rw [advM_eq, if_neg (by omega), List.length_take_of_le h]
  simp
theorem advM_bound (s : List UInt8) : 1 ≤ (advM (1, 1) s).1 ∧ (advM (1, 1) s).1 ≤ s.length + 1 ∧ 1 ≤ (advM (1, 1) s).2 ∧ (advM (1, 1) s).2 ≤ s.length + 1 := by
  rw [advM_eq]
  have h1 : s.count 10 ≤ s.length := List.count_le_length
  have h2 := lastM_le s
  have h3 : lastM s < s.length := by
    rcases Lib.lastIndexByte_spec ⟨s.toArray⟩ 10 with ⟨h, _⟩ | ⟨i, hi, h, _⟩
    · unfold lastM; rw [h]; omega
    · unfold lastM; rw [h]
      have : (⟨s.toArray⟩ : ByteArray).size = s.length := by simp [ByteArray.size]
      omega
  simp only
  omega
theorem r_PlaceAt (s : List UInt8) (n : Nat) (hs : s.length ≤ 4294967296) (hn : n ≤ s.length) : F Γd 44 [.d (.str s), .d (.int .i64 n)] (.agg [.int .i64 (placeAtM s n).1, .int .i64 (placeAtM s n).2]) := by
  refine fn_of c44 rfl (by simp only [Env.of, List.zipIdx, List.map]; rfl) ?_
  have htl : (s.take n).length = n := List.length_take_of_le hn
  repeat' (first | refine dr ?_ | (refine ds ?_ ?_ <;> intro hb) | ((with_reducible refine dbm ?_); first | exact db_nil | refine dbc ?_ ?_) | ((with_reducible refine natle ?_); first | assumption | omega | (simp; omega)))
  refine LP_for (s.take n) (fun i (_ : Int × Int) => [(0, .d (.str s)), (1, .d (.int .i64 n)), (4, .ptr 0 0), (5, .ptr 1 0), (6, .d (.int .i64 i))])
    (fun _ p => [.box 23 [.d (.int .i64 0), .d (.int .i64 0)], .box 23 [.d (.int .i64 p.1), .d (.int .i64 p.2)]]) (fun i p => advM (1, 1) ((s.take n).take i) = p) (1, 1) rfl rfl rfl ?_ ?_
  · rintro i b ⟨l, c⟩ hx hlt hI ih
    have hb := advM_bound ((s.take n).take i)
    rw [hI] at hb
    simp only at hb
    have hti : ((s.take n).take i).length = i := by simp; omega
    rw [hti] at hb
    have hx' : s[i]? = some b := by rw [List.getElem?_take] at hx; split at hx; exact hx; cases hx
    have hnext : advM (1, 1) ((s.take n).take (i + 1)) = if b = 10 then (l + 1, 1) else (l, c + 1) := by
      rw [List.take_add_one, hx, advM_append, hI]; rfl
    have hb10 : b = 10 ↔ (b.toNat : Int) = 10 := (byteN b 10 (by decide)).symm
    clear hI
    repeat' (first | refine dr ?_ | (refine ds ?_ ?_ <;> intro hb) | ((with_reducible refine dbm ?_); first | exact db_nil | refine dbc ?_ ?_) | ((with_reducible refine natle ?_); first | assumption | omega | (simp; omega)))
    · rw [if_pos (hb10.2 ‹_›)] at hnext
      refine LP_at ?_ ?_ (ih _ hnext)
      · (first | (simp [Env.shr, Env.get, PV.exp, PV.ids, PV.ids.idsL]; done) | simp [Env.shr, Env.get, PV.exp, PV.ids, PV.ids.idsL, *])
      · simp [shrink, Ent.exp, PV.exp, PV.ids]
    · rw [if_neg (fun h => absurd (hb10.1 h) ‹_›)] at hnext
      refine LP_at ?_ ?_ (ih _ hnext)
      · (first | (simp [Env.shr, Env.get, PV.exp, PV.ids, PV.ids.idsL]; done) | simp [Env.shr, Env.get, PV.exp, PV.ids, PV.ids.idsL, *])
      · simp [shrink, Ent.exp, PV.exp, PV.ids]
  · rintro ⟨l, c⟩ hI
    rw [List.take_length] at hI
    have hn' : ((s.take n).length : Int) = n := by omega
    repeat' (first | refine dr ?_ | (refine ds ?_ ?_ <;> intro hb) | ((with_reducible refine dbm ?_); first | exact db_nil | refine dbc ?_ ?_) | ((with_reducible refine natle ?_); first | assumption | omega | (simp; omega)))
    simp [placeAtM, hI]
theorem r_PlaceOf (s : List UInt8) (off : Int) (hs : s.length ≤ 4294967296) : F Γd 17 [.d (.str s), .d (.int .i64 off)] (.agg [.int .i64 (placeOfM s off).1.1, .int .i64 (placeOfM s off).1.2, .int .i64 (placeOfM s off).2]) := by
  refine fn_of c17 rfl (by simp only [Env.of, List.zipIdx, List.map]; rfl) ?_
  by_cases h : off < 0 ∨ (s.length : Int) < off
  · have hm : placeOfM s off = ((0, 0), 1) := by unfold placeOfM; rw [if_pos h]
    repeat' (first | refine dr ?_ | (refine ds ?_ ?_ <;> intro hb) | ((with_reducible refine dbm ?_); first | exact db_nil | refine dbc ?_ ?_) | ((with_reducible refine natle ?_); first | assumption | omega | (simp; omega)))
    all_goals simp [hm]
  obtain ⟨n, rfl⟩ := Int.eq_ofNat_of_zero_le (show 0 ≤ off by omega)
  have hP := r_PlaceAt s n hs (by omega)
  have hm := placeAtM_eq s n (by omega)
  have he : (placeOfM s n).2 = 0 := by unfold placeOfM; rw [if_neg h]
  rw [hm] at hP
  repeat' (first | ((with_reducible refine wcm ?_); first | refine cF (hP) ?_) | refine dr ?_ | (refine ds ?_ ?_ <;> intro hb) | ((with_reducible refine dbm ?_); first | exact db_nil | refine dbc ?_ ?_) | ((with_reducible refine natle ?_); first | assumption | omega | (simp; omega)))
  simp [he]
end Go.Plane
end
section
set_option linter.unusedVariables false
set_option linter.unusedSimpArgs false
set_option maxRecDepth 100000
set_option maxHeartbeats 2000000
namespace Go.Plane
open Go Go.Proofs
theorem r_Edit (s : List UInt8) (a b : Int) (x : List UInt8) (hs : s.length ≤ 4294967296) (hx : x.length ≤ 4294967296) :
    F Γd 19 [.d (.str s), .agg [.int .i64 a, .int .i64 b, .str x]] (.agg [.str (editM s a b x).1, .int .i64 (editM s a b x).2]) := by
  refine fn_of c19 rfl (by simp only [Env.of, List.zipIdx, List.map]; rfl) ?_
  have e1 : (s.take a.toNat).length ≤ s.length := by simp; omega
  have e2 : (s.take a.toNat ++ x).length ≤ s.length + x.length := by simp; omega
  have e3 : (s.drop b.toNat).length ≤ s.length := by simp
  repeat' (first | refine dr ?_ | (refine ds ?_ ?_ <;> intro hb) | ((with_reducible refine dbm ?_); first | exact db_nil | refine dbc ?_ ?_) | ((with_reducible refine natle ?_); first | assumption | omega | (simp; omega)))
  all_goals simp [editM, *]
theorem r_Offset (s : List UInt8) (l c : Int) (hs : s.length ≤ 1000000000) : F Γd 15 [.d (.str s), .agg [.int .i64 l, .int .i64 c]] (aggI (offsetM s l c)) := by
  refine fn_of c15 rfl (by simp only [Env.of, List.zipIdx, List.map]; rfl) ?_
  have hS := r_lines s hs
  have hlen := strsD_length (splitL 10 s)
  have hall := strsD_len (splitL 10 s)
  have hcnt : (splitL 10 s).length ≤ s.length + 1 := by rw [splitL_length]; have := List.count_le_length (a := (10 : UInt8)) (l := s); omega
  by_cases hl1 : l < 1
  · have hm : offsetM s l c = (0, 1) := by unfold offsetM; rw [if_pos (.inl hl1)]
    repeat' (first | ((with_reducible refine wcm ?_); first | refine cF (hS) ?_) | refine dr ?_ | (refine ds ?_ ?_ <;> intro hb) | ((with_reducible refine dbm ?_); first | exact db_nil | refine dbc ?_ ?_) | ((with_reducible refine natle ?_); first | assumption | omega | (simp; omega)))
    all_goals simp [hm, aggI]
  have hmax : max 0 (l - 1) = l - 1 := by omega
  cases hx : (splitL 10 s)[(l - 1).toNat]? with
  | none =>
    have hn := List.getElem?_eq_none_iff.1 hx
    have hm : offsetM s l c = (0, 1) := by unfold offsetM; rw [if_pos]; omega
    repeat' (first | ((with_reducible refine wcm ?_); first | refine cF (hS) ?_) | refine dr ?_ | (refine ds ?_ ?_ <;> intro hb) | ((with_reducible refine dbm ?_); first | exact db_nil | refine dbc ?_ ?_) | ((with_reducible refine natle ?_); first | assumption | omega | (simp; omega)))
    all_goals simp [hm, aggI]
  | some x =>
    have hn := (List.getElem?_eq_some_iff.1 hx).1
    have hy := strsD_at hx
    have hxl : x.length ≤ s.length := splitL_le 10 s x (List.mem_of_getElem? hx)
    by_cases hc : l < 1 ∨ ((splitL 10 s).length : Int) < l ∨ c < 1 ∨ (x.length : Int) + 1 < c
    · have hm : offsetM s l c = (0, 1) := by unfold offsetM; rw [hx, Option.getD_some, if_pos hc]
      repeat' (first | ((with_reducible refine wcm ?_); first | refine cF (hS) ?_) | refine dr ?_ | (refine ds ?_ ?_ <;> intro hb) | ((with_reducible refine dbm ?_); first | exact db_nil | refine dbc ?_ ?_) | ((with_reducible refine natle ?_); first | assumption | omega | (simp; omega)))
      all_goals simp [hm, aggI]
    have hok : offsetM s l c = (c - 1 + bytesM ((splitL 10 s).take (l - 1).toNat), 0) := by unfold offsetM; rw [hx, Option.getD_some, if_neg hc]
    repeat' (first | ((with_reducible refine wcm ?_); first | refine cF (hS) ?_) | refine dr ?_ | (refine ds ?_ ?_ <;> intro hb) | ((with_reducible refine dbm ?_); first | exact db_nil | refine dbc ?_ ?_) | ((with_reducible refine natle ?_); first | assumption | omega | (simp; omega)))
    have hle := bytesM_take_le (splitL 10 s)
    have hsp := bytesM_split 10 s
    have htl : ((splitL 10 s).take (l - 1).toNat).length = (l - 1).toNat := List.length_take_of_le (by omega)
    refine LP_for ((splitL 10 s).take (l - 1).toNat) (fun i n => [(3, .ptr 0 0), (4, .ptr 1 0), (5, .d (.slice (strsD (splitL 10 s)))), (6, .d (.int .i64 n)), (7, .d (.int .i64 i))])
      (fun _ _ => [.box 23 [.d (.int .i64 l), .d (.int .i64 c)], .box 33 [.d (.int .i64 0), .d (.int .i64 0)]]) (fun i n => n = c - 1 + bytesM (((splitL 10 s).take (l - 1).toNat).take i)) (c - 1) rfl rfl (by simp [bytesM]) ?_ ?_
    · rintro i y n hi hlt rfl ih
      have hi' : (splitL 10 s)[i]? = some y := by rw [List.getElem?_take] at hi; split at hi; exact hi; cases hi
      have hy := strsD_at hi'
      have hb := bytesM_take_le ((splitL 10 s).take (l - 1).toNat) i
      have hb2 := hle (l - 1).toNat
      have hb3 := bytesM_nonneg (((splitL 10 s).take (l - 1).toNat).take i)
      have hyl : y.length ≤ s.length := splitL_le 10 s y (List.mem_of_getElem? hi')
      clear hx hok
      repeat' (first | refine dr ?_ | (refine ds ?_ ?_ <;> intro hb) | ((with_reducible refine dbm ?_); first | exact db_nil | refine dbc ?_ ?_) | ((with_reducible refine natle ?_); first | assumption | omega | (simp; omega)))
      refine LP_at ?_ ?_ (ih _ rfl)
      · rw [bytesM_take_succ hi]
        simp [Env.shr, Env.get, PV.exp, PV.ids, PV.ids.idsL]
        omega
      · simp [shrink, Ent.exp, PV.exp, PV.ids]
    · rintro n rfl
      rw [List.take_length]
      repeat' (first | refine dr ?_ | (refine ds ?_ ?_ <;> intro hb) | ((with_reducible refine dbm ?_); first | exact db_nil | refine dbc ?_ ?_) | ((with_reducible refine natle ?_); first | assumption | omega | (simp; omega)))
      simp [hok, aggI]
end Go.Plane
end
section
set_option linter.unusedVariables false
namespace Go.Proofs
open Go.Shelf Go.RowKit
set_option maxHeartbeats 1000000
set_option maxRecDepth 100000
theorem Tryd.bcells : (Tryd.prog.info? 89).map (·.size) = some 2 := by kernel_rfl
theorem Tryd.blies : liesAt Tryd.prog Tryd.prog.depth 89 (2 / Tryd.prog.cellsOf 89) 0 89 1 = true := by kernel_rfl
theorem Tryd.copyCheck_used (b : Nat) (w : World) (h0 : w.cell? ⟨b, 0, none⟩ = some (.pointer (some ⟨b, 0, none⟩))) :
    Calls Tryd.prog 79 #[.pointer (some ⟨b, 0, none⟩)] w fun e w' => e = .returned (.tuple #[]) ∧ w' = w := by
  obtain ⟨j, hj, _⟩ := Option.map_eq_some_iff.1 Tryd.bcells
  go_enter Tryd.func79, Tryd.ntmps79
  go_wp2
  rw [Lib.run_neq_ptr_same w _ Tryd.underlying86 hj]
  go_wp2
  go_end0
  exact ⟨rfl, rfl⟩
theorem Tryd.copyCheck_fresh (b : Nat) (w : World) (h0 : w.cell? ⟨b, 0, none⟩ = some (.pointer none)) (hsh : w.shape? b = some (89, 2)) (hfz : w.frozen? ⟨b, 0, none⟩ = false) :
    Calls Tryd.prog 79 #[.pointer (some ⟨b, 0, none⟩)] w fun e w' => e = .returned (.tuple #[]) ∧ w' = w.setCell ⟨b, 0, none⟩ (.pointer (some ⟨b, 0, none⟩)) := by
  obtain ⟨j, hj, hjs⟩ := Option.map_eq_some_iff.1 Tryd.bcells
  go_enter Tryd.func79, Tryd.ntmps79
  go_wp2
  rw [Lib.run_to_unsafe w ⟨b, 0, none⟩ Tryd.underlying86 Tryd.underlying141 hj (by rw [hjs]; decide) hsh (Nat.zero_lt_succ 1)]
  simp only [Result.andThen]
  rw [Oper.upon_value]
  go_wp2
  rw [run_callFunc_extern Tryd.func109 (by kernel_rfl) (by kernel_rfl) (by kernel_rfl) (e := Extern.AbiNoEscape.same) (by kernel_rfl)]
  rw [Lib.run_noEscape]
  simp only [Result.andThen]
  rw [Oper.upon_value]
  go_wp2
  rw [Lib.run_from_unsafe w ⟨b, 0, none⟩ Tryd.underlying141 Tryd.underlying86 hj hsh Tryd.blies]
  simp only [Result.andThen]
  rw [Oper.upon_value]
  go_wp2
  go_end0
  exact ⟨rfl, rfl⟩
end Go.Proofs
end
section
set_option linter.unusedVariables false
namespace Go.Proofs
open Go.Shelf Go.RowKit
variable {P : Program} {ρ : Ren}
/-- Nothing but the marks of one block's cells, and what is new. -/
structure Froze (w w' : World) (g : Option Nat) (n : Nat) : Prop where
  os : w'.os = w.os
  tape : w'.tape = w.tape
  output : w'.output = w.output
  size : w.heap.size ≤ w'.heap.size
  keep : ∀ k, k < w.heap.size → g ≠ some k → w'.heap[k]? = w.heap[k]?
  here : ∀ k c e f, g = some k → w.heap[k]? = some (.cells c e f) → ∃ f', w'.heap[k]? = some (.cells c e f') ∧ f'.2 ≤ max f.2 n
theorem Froze.drew {w : World} (n : Nat) : Froze w w.drew none n := ⟨rfl, rfl, rfl, Nat.le_refl _, fun _ _ _ => rfl, fun _ _ _ _ h => by cases h⟩
theorem Froze.alloc {w w' : World} {g : Option Nat} {n : Nat} (h : Froze w w' g n) (o : Obj) : Froze w (w'.alloc o) g n := by
  have key : ∀ k, k < w'.heap.size → (w'.alloc o).heap[k]? = w'.heap[k]? := fun k hk => Plane.heap_push_old w' o hk
  refine ⟨h.os, h.tape, h.output, Nat.le_trans h.size (by rw [Plane.size_alloc']; omega), fun k hk hg => (key k (Nat.lt_of_lt_of_le hk h.size)).trans (h.keep k hk hg), fun k c e f hg hk => ?_⟩
  obtain ⟨f', h1, h2⟩ := h.here k c e f hg hk
  exact ⟨f', (key k (Array.getElem?_eq_some_iff.1 h1).1).trans h1, h2⟩
theorem Froze.freeze {w : World} (g n : Nat) : Froze w (w.drew.freeze ⟨g, 0, none⟩ n) (some g) n := by
  unfold World.freeze
  split
  · exact ⟨rfl, rfl, rfl, Nat.le_refl _, fun _ _ _ => rfl, fun k c e f _ hk => ⟨f, hk, Nat.le_max_left _ _⟩⟩
  · refine ⟨rfl, rfl, rfl, Nat.le_of_eq (Array.size_modify (xs := w.drew.heap) ..).symm, fun k hk hg => ?_, fun k c e f hg hk => ?_⟩
    · simp only [Array.getElem?_modify]
      rw [if_neg (fun he => hg (by rw [he]))]
      rfl
    · cases hg
      simp only [Array.getElem?_modify, if_true]
      rw [show w.drew.heap[g]? = w.heap[g]? from rfl, hk]
      obtain ⟨lo, hi⟩ := f
      simp only [Option.map_some]
      split
      · exact ⟨_, rfl, by simp; omega⟩
      · exact ⟨_, rfl, by simp⟩

set_option maxHeartbeats 1000000 in
set_option maxRecDepth 100000 in
theorem Any.Builder_String_exact (L : Lays.n169 P ρ) (X : Builder.Extra P ρ) (b g cap : Nat) (cur : Array Value) (p : Value) (l : List UInt8) (w : World) (h0 : l ≠ [])
    (hbk : w.heap[b]? = some (.cells #[p, .slice (some ⟨g, 0, none⟩) l.length cap] (ρ.t 72) (0, 0))) (f : Nat × Nat) (hg : w.heap[g]? = some (.cells cur (ρ.t 5) f)) (hc : l.length ≤ cap) (hcs : l.length ≤ cur.size) (hm : l.length ≤ maxLen)
    (hcell : ∀ (j : Nat) (x : UInt8), l[j]? = some x → w.cell? ⟨g, j, none⟩ = some (.int .u8 x.toNat)) :
    Calls P (ρ.f 169) #[.pointer (some ⟨b, 0, none⟩)] w fun e w' => e = .returned (.string ⟨l.toArray⟩) ∧ Froze w w' (some g) l.length := by
  have hl0 : l.length ≠ 0 := by simpa using h0
  have c1 : w.drew.cell? ⟨b, 1, none⟩ = some (.slice (some ⟨g, 0, none⟩) l.length cap) := by
    have : w.drew.heap[b]? = some (.cells #[p, .slice (some ⟨g, 0, none⟩) l.length cap] (ρ.t 72) (0, 0)) := hbk
    rw [Lib.cell_of_heap this]; rfl
  have hSD : (Builtin.unsafeSliceData_ #[(ρ.t 37)] (ρ.t 127) #[.slice (some ⟨g, 0, none⟩) l.length cap]).run P w.drew = .ok (.pointer (some ⟨g, 0, none⟩)) w.drew :=
    Lib.run_unsafeSliceData_row _ _ _ _ _ _ (by omega)
  have hUS : (Builtin.unsafeString_ #[(ρ.t 127), (ρ.t 3)] (ρ.t 9) #[.pointer (some ⟨g, 0, none⟩), .int .i64 l.length]).run P w.drew = .ok (.string ⟨l.toArray⟩) (w.drew.freeze ⟨g, 0, none⟩ l.length) := by
    refine Lib.run_unsafeString_row w.drew (ρ.t 127) (ρ.t 3) (ρ.t 9) (ρ.t 5) L.t127 X.cellsByte g cur.size (by have hg' : w.drew.heap[g]? = some (.cells cur (ρ.t 5) f) := hg; simp [World.shape?, hg']) l h0 (by omega) (by unfold maxLen at hm; omega) ?_
    intro j x hx
    have := hcell j x hx
    rw [Addr.add_mid, Nat.zero_add]
    exact this
  have hfz := Froze.freeze (w := w) g l.length
  have mixed := L.mixed
  have t72 := L.t72; have a72 := L.a72; have z72 := L.z72; have v72 := L.v72; have u72 := run_underlying L.t72
  have t70 := L.t70; have a70 := L.a70; have z70 := L.z70; have v70 := L.v70; have u70 := run_underlying L.t70
  have t37 := L.t37; have a37 := L.a37; have z37 := L.z37; have v37 := L.v37; have u37 := run_underlying L.t37
  have t127 := L.t127; have a127 := L.a127; have z127 := L.z127; have v127 := L.v127; have u127 := run_underlying L.t127
  have t3 := L.t3; have a3 := L.a3; have z3 := L.z3; have v3 := L.v3; have u3 := run_underlying L.t3
  have t9 := L.t9; have a9 := L.a9; have z9 := L.z9; have v9 := L.v9; have u9 := run_underlying L.t9
  have t5 := X.t5; have a5 := X.a5; have z5 := X.z5; have v5 := X.v5; have u5 := run_underlying X.t5
  clear hcell hg hbk hc hcs hm
  go_enter L.f169, Body.n169_ntmps ρ
  go_wp2
  go_region_o
  all_goals (go_wp2; go_ret; exact ⟨rfl, hfz⟩)
end Go.Proofs
end
section
set_option linter.unusedVariables false
namespace Go.Plane
open Go Go.Proofs Go.RowKit
section
variable {Γ : Cfg} {M : Mem} {ρ : List Gh} {σ : Store} {w w' : World}

theorem froze_shape {g : Option Nat} {n : Nat} (hf : Froze w w' g n) (hc : ∀ k, g = some k → ∃ c e f, w.heap[k]? = some (.cells c e f)) (b : Nat) (s : TypeId × Nat) (hs : w.shape? b = some s) : w'.shape? b = some s := by
  have hlt : b < w.heap.size := by
    rcases Nat.lt_or_ge b w.heap.size with h1 | h1
    · exact h1
    · simp [World.shape?, Array.getElem?_eq_none h1] at hs
  by_cases hb : g = some b
  · obtain ⟨c, e, f, h0⟩ := hc b hb
    obtain ⟨f', h1, _⟩ := hf.here b c e f hb h0
    unfold World.shape? at hs ⊢
    rw [h0] at hs
    rw [h1]
    exact hs
  · unfold World.shape? at hs ⊢
    rw [hf.keep b hlt hb]
    exact hs
theorem froze_cell {g : Option Nat} {n : Nat} (hf : Froze w w' g n) (hc : ∀ k, g = some k → ∃ c e f, w.heap[k]? = some (.cells c e f)) {b o : Nat} {v : Value} (h : w.cell? ⟨b, o, none⟩ = some v) : w'.cell? ⟨b, o, none⟩ = some v := by
  have hlt : b < w.heap.size := by
    rcases Nat.lt_or_ge b w.heap.size with h1 | h1
    · exact h1
    · simp [World.cell?, Array.getElem?_eq_none h1] at h
  by_cases hb : g = some b
  · obtain ⟨c, e, f, h0⟩ := hc b hb
    obtain ⟨f', h1, _⟩ := hf.here b c e f hb h0
    unfold World.cell? at h ⊢
    rw [h0] at h
    rw [h1]
    exact h
  · unfold World.cell? at h ⊢
    rw [hf.keep b hlt hb]
    exact h

/-- A list's first cells are marked. -/
theorem stp_froze (h : Rel Γ M ρ σ w) {g : Option Nat} {n : Nat} (hf : Froze w w' g n)
    (hg : ∀ k, g = some k → ∃ (i : Nat) (sz : TypeId × Nat) (xs : List (List D)) (a : Addr) (cap : Nat), σ[i]? = some (.lst sz xs) ∧ ρ[i]? = some (.cur (.slice (some a) xs.length cap)) ∧ a.block = k ∧ n ≤ xs.length * sz.2) :
    Stp Γ M ρ σ w M ρ σ w' := by
  have hc : ∀ k, g = some k → ∃ c e f, w.heap[k]? = some (.cells c e f) := fun k hk => by
    obtain ⟨i, sz, xs, a, cap, h1, h2, h3, h4⟩ := hg k hk
    obtain ⟨v, k1, k2, k3, k4⟩ := h.lst i sz xs h1
    rw [h2] at k1
    cases k1
    obtain ⟨b, o, vs, e, f, ha, hh, _⟩ := k4 _ _ _ rfl (.inr (by simp))
    cases ha
    exact ⟨vs, e, f, by rw [← h3]; exact hh⟩
  have hin : ∀ k, g = some k → k ∈ blks ρ := fun k hk => by
    obtain ⟨i, sz, xs, a, cap, h1, h2, h3, h4⟩ := hg k hk
    exact mem_blks.2 ⟨i, _, h2, by simp [Gh.block, h3]⟩
  refine ⟨⟨hf.os, hf.tape, hf.output, hf.size, fun b hb hn => hf.keep b hb (fun he => hn (hin b he)), Mem.le_refl M, fun b o v h1 h2 => (by rw [h1] at h2; cases h2), froze_shape hf hc⟩,
    ⟨h.gl, fun b o v hm => froze_cell hf hc (h.mem b o v hm), h.len, fun i ty cs hi => ?_, fun i sz xs hi => ?_, h.inj⟩, fun b hb => .inl hb, fun i => Tr.refl ρ σ i⟩
  · obtain ⟨b, vs, e, h1, h2, h3, h4, h5⟩ := h.box i ty cs hi
    refine ⟨b, vs, e, h1, ?_, h3, h4, h5⟩
    rw [hf.keep b (Array.getElem?_eq_some_iff.1 h2).1 (fun he => ?_)]
    · exact h2
    · obtain ⟨j, sz, xs, a, cap, k1, k2, k3, k4⟩ := hg b he
      have hij : i ≠ j := fun e => by subst e; rw [hi] at k1; cases k1
      exact h.inj i j _ _ b hij h1 k2 rfl (by simp [Gh.block, k3])
  · obtain ⟨v, h1, h2, h3, h4⟩ := h.lst i sz xs hi
    refine ⟨v, h1, h2, h3, fun a m cap hv hlt => ?_⟩
    obtain ⟨b, o, vs, e, f, ha, hh, h0, h5, h6⟩ := h4 a m cap hv hlt
    by_cases hb : g = some b
    · obtain ⟨j, sz', xs', a', cap', k1, k2, k3, k4⟩ := hg b hb
      have hij : i = j := by
        by_cases hij : i = j
        · exact hij
        · exact (h.inj i j _ _ b hij h1 k2 (by subst hv ha; simp [Gh.block]) (by simp [Gh.block, k3])).elim
      subst hij
      rw [hi] at k1
      cases k1
      rw [h1] at k2
      cases k2
      cases hv
      obtain ⟨f', q1, q2⟩ := hf.here b vs e f hb hh
      refine ⟨b, o, vs, e, f', ha, q1, ⟨?_, h0.2⟩, h5, h6⟩
      have := h0.1
      have h7 := h0.2.1
      subst h7
      simp only [Nat.zero_add] at this ⊢
      omega
    · exact ⟨b, o, vs, e, f, ha, by rw [hf.keep b (Array.getElem?_eq_some_iff.1 hh).1 hb]; exact hh, h0, h5, h6⟩
end
end Go.Plane
end
section
set_option linter.unusedVariables false
namespace Go.Proofs
open Go.Shelf Go.RowKit
variable {P : Program} {ρ : Ren}
set_option maxHeartbeats 2000000 in
set_option maxRecDepth 100000 in
theorem Any.Builder_String_nil_x (L : Lays.n169 P ρ) (X : Builder.Extra P ρ) (b : Nat) (p : Value) (w : World) (hbk : w.heap[b]? = some (.cells #[p, .slice none 0 0] (ρ.t 72) (0, 0))) :
    Calls P (ρ.f 169) #[.pointer (some ⟨b, 0, none⟩)] w fun e w' => e = .returned (.string ⟨#[]⟩) ∧ Froze w w' none 0 := by
  have hUS := Any.unsafeString_none L X
  have c1 : w.drew.cell? ⟨b, 1, none⟩ = some (.slice none 0 0) := by
    have : w.drew.heap[b]? = some (.cells #[p, .slice none 0 0] (ρ.t 72) (0, 0)) := hbk
    rw [Lib.cell_of_heap this]; rfl
  have hSD : (Builtin.unsafeSliceData_ #[(ρ.t 37)] (ρ.t 127) #[.slice none 0 0]).run P w.drew = .ok (.pointer none) w.drew := rfl
  have mixed := L.mixed
  have t72 := L.t72; have a72 := L.a72; have z72 := L.z72; have v72 := L.v72; have u72 := run_underlying L.t72
  have t70 := L.t70; have a70 := L.a70; have z70 := L.z70; have v70 := L.v70; have u70 := run_underlying L.t70
  have t37 := L.t37; have a37 := L.a37; have z37 := L.z37; have v37 := L.v37; have u37 := run_underlying L.t37
  have t127 := L.t127; have a127 := L.a127; have z127 := L.z127; have v127 := L.v127; have u127 := run_underlying L.t127
  have t3 := L.t3; have a3 := L.a3; have z3 := L.z3; have v3 := L.v3; have u3 := run_underlying L.t3
  have t9 := L.t9; have a9 := L.a9; have z9 := L.z9; have v9 := L.v9; have u9 := run_underlying L.t9
  have t5 := X.t5; have a5 := X.a5; have z5 := X.z5; have v5 := X.v5; have u5 := run_underlying X.t5
  go_enter L.f169, Body.n169_ntmps ρ
  go_wp2
  go_region_o
  all_goals (go_wp2; go_ret; exact ⟨rfl, Froze.drew 0⟩)

set_option maxHeartbeats 2000000 in
set_option maxRecDepth 100000 in
theorem Any.Builder_String_noroom_x (L : Lays.n169 P ρ) (X : Builder.Extra P ρ) (b g : Nat) (p : Value) (cur : Array Value) (w : World) (hbk : w.heap[b]? = some (.cells #[p, .slice (some ⟨g, 0, none⟩) 0 0] (ρ.t 72) (0, 0))) (fz : Nat × Nat) (hg : w.heap[g]? = some (.cells cur (ρ.t 5) fz)) :
    Calls P (ρ.f 169) #[.pointer (some ⟨b, 0, none⟩)] w fun e w' => e = .returned (.string ⟨#[]⟩) ∧ Froze w w' none 0 := by
  have hUS := Any.unsafeString_none L X
  have hlt : b < w.heap.size := by
    rcases Nat.lt_or_ge b w.heap.size with h' | h'
    · exact h'
    · simp [Array.getElem?_eq_none h'] at hbk
  have c1 : w.drew.cell? ⟨b, 1, none⟩ = some (.slice (some ⟨g, 0, none⟩) 0 0) := by
    have : w.drew.heap[b]? = some (.cells #[p, .slice (some ⟨g, 0, none⟩) 0 0] (ρ.t 72) (0, 0)) := hbk
    rw [Lib.cell_of_heap this]; rfl
  have hSD : (Builtin.unsafeSliceData_ #[(ρ.t 37)] (ρ.t 127) #[.slice (some ⟨g, 0, none⟩) 0 0]).run P w.drew = .ok (.pointer (some ⟨w.drew.heap.size, 0, none⟩)) (w.drew.alloc (.view ⟨g, 0, none⟩ (ρ.t 5))) :=
    Lib.run_unsafeSliceData_zero w.drew _ _ (ρ.t 5) L.t127 ⟨g, 0, none⟩ 0 ((ρ.t 5), cur.size) (by have hg' : w.drew.heap[g]? = some (.cells cur (ρ.t 5) fz) := hg; simp [World.shape?, hg'])
  have c2 : (w.drew.alloc (.view ⟨g, 0, none⟩ (ρ.t 5))).cell? ⟨b, 1, none⟩ = some (.slice (some ⟨g, 0, none⟩) 0 0) := by
    have : (w.drew.alloc (.view ⟨g, 0, none⟩ (ρ.t 5))).heap[b]? = _ := (Lib.alloc_old w.drew _ b hlt).trans hbk
    rw [Lib.cell_of_heap this]; rfl
  have c3 : (w.alloc (.view ⟨g, 0, none⟩ (ρ.t 5))).drew.cell? ⟨b, 1, none⟩ = some (.slice (some ⟨g, 0, none⟩) 0 0) := c2
  have c0 : w.cell? ⟨b, 1, none⟩ = some (.slice (some ⟨g, 0, none⟩) 0 0) := c1
  have mixed := L.mixed
  have t72 := L.t72; have a72 := L.a72; have z72 := L.z72; have v72 := L.v72; have u72 := run_underlying L.t72
  have t70 := L.t70; have a70 := L.a70; have z70 := L.z70; have v70 := L.v70; have u70 := run_underlying L.t70
  have t37 := L.t37; have a37 := L.a37; have z37 := L.z37; have v37 := L.v37; have u37 := run_underlying L.t37
  have t127 := L.t127; have a127 := L.a127; have z127 := L.z127; have v127 := L.v127; have u127 := run_underlying L.t127
  have t3 := L.t3; have a3 := L.a3; have z3 := L.z3; have v3 := L.v3; have u3 := run_underlying L.t3
  have t9 := L.t9; have a9 := L.a9; have z9 := L.z9; have v9 := L.v9; have u9 := run_underlying L.t9
  have t5 := X.t5; have a5 := X.a5; have z5 := X.z5; have v5 := X.v5; have u5 := run_underlying X.t5
  go_enter L.f169, Body.n169_ntmps ρ
  go_wp2
  go_region_o
  all_goals (go_wp2; go_ret; exact ⟨rfl, (Froze.drew 0).alloc _⟩)

set_option maxHeartbeats 2000000 in
set_option maxRecDepth 100000 in
theorem Any.Builder_String_room_x (L : Lays.n169 P ρ) (X : Builder.Extra P ρ) (b g cap : Nat) (p : Value) (w : World) (hc0 : cap ≠ 0) (hbk : w.heap[b]? = some (.cells #[p, .slice (some ⟨g, 0, none⟩) 0 cap] (ρ.t 72) (0, 0))) :
    Calls P (ρ.f 169) #[.pointer (some ⟨b, 0, none⟩)] w fun e w' => e = .returned (.string ⟨#[]⟩) ∧ Froze w w' none 0 := by
  have hUS := Any.unsafeString_none L X
  have c1 : w.drew.cell? ⟨b, 1, none⟩ = some (.slice (some ⟨g, 0, none⟩) 0 cap) := by
    have : w.drew.heap[b]? = some (.cells #[p, .slice (some ⟨g, 0, none⟩) 0 cap] (ρ.t 72) (0, 0)) := hbk
    rw [Lib.cell_of_heap this]; rfl
  have hSD : (Builtin.unsafeSliceData_ #[(ρ.t 37)] (ρ.t 127) #[.slice (some ⟨g, 0, none⟩) 0 cap]).run P w.drew = .ok (.pointer (some ⟨g, 0, none⟩)) w.drew :=
    Lib.run_unsafeSliceData_row _ _ _ _ _ _ hc0
  clear hc0
  have mixed := L.mixed
  have t72 := L.t72; have a72 := L.a72; have z72 := L.z72; have v72 := L.v72; have u72 := run_underlying L.t72
  have t70 := L.t70; have a70 := L.a70; have z70 := L.z70; have v70 := L.v70; have u70 := run_underlying L.t70
  have t37 := L.t37; have a37 := L.a37; have z37 := L.z37; have v37 := L.v37; have u37 := run_underlying L.t37
  have t127 := L.t127; have a127 := L.a127; have z127 := L.z127; have v127 := L.v127; have u127 := run_underlying L.t127
  have t3 := L.t3; have a3 := L.a3; have z3 := L.z3; have v3 := L.v3; have u3 := run_underlying L.t3
  have t9 := L.t9; have a9 := L.a9; have z9 := L.z9; have v9 := L.v9; have u9 := run_underlying L.t9
  have t5 := X.t5; have a5 := X.a5; have z5 := X.z5; have v5 := X.v5; have u5 := run_underlying X.t5
  go_enter L.f169, Body.n169_ntmps ρ
  go_wp2
  go_region_o
  all_goals (go_wp2; go_ret; exact ⟨rfl, Froze.drew 0⟩)
end Go.Proofs
end
section
set_option linter.unusedVariables false
namespace Go.Plane
open Go Go.Proofs Go.RowKit
set_option maxRecDepth 100000

theorem one_arg {M : Mem} {ρ : List Gh} {σ : Store} {vs : List Value} {p : PV} (hl : vs.length = [p].length) (ha : ∀ (j : Nat) (v : Value) (q : PV), vs[j]? = some v → [p][j]? = some q → Rep M ρ σ v q) : ∃ v, vs = [v] ∧ Rep M ρ σ v p := by
  match vs, hl with
  | [v], _ => exact ⟨v, rfl, ha 0 v p rfl rfl⟩
theorem two_cells {vs : Array Value} (h : vs.size = 2) : ∃ a b, vs = #[a, b] := by
  obtain ⟨l⟩ := vs
  match l, h with
  | [a, b], _ => exact ⟨a, b, rfl⟩

theorem T_copyCheck {b : Nat} {c0 c1 : PV} {σ : Store} {Q : Out → Store → Prop} (hb : σ[b]? = some (.box 89 [c0, c1])) (hc : c0 = .nilp ∨ c0 = .ptr b 0)
    (hQ : Q (.ret (.tup [])) (σ.set b (.box 89 [.ptr b 0, c1]))) : T Γd 79 [.ptr b 0] σ Q := by
  refine ⟨by kernel_rfl, fun M ρ w vs hrel hgw hl ha => ?_⟩
  obtain ⟨v, rfl, hv⟩ := one_arg hl ha
  obtain ⟨blk, rfl, hρ⟩ := hv.ptr_inv
  obtain ⟨b', cs, e, h1, h2, h3, h4, h5⟩ := hrel.box b _ _ hb
  rw [hρ] at h1
  cases h1
  obtain ⟨hno, rfl⟩ := h5
  obtain ⟨x0, x1, rfl⟩ := two_cells h3
  have r0 := h4 0 x0 c0 rfl rfl
  have r1 := h4 1 x1 c1 rfl rfl
  rcases hc with rfl | rfl
  · have hx0 : x0 = .pointer none := by cases r0; rfl
    subst hx0
    refine (Tryd.copyCheck_fresh blk w (by simp [World.cell?, h2]) (by simp [World.shape?, h2]) (by simp [World.frozen?, h2])).mono ?_
    rintro e w' ⟨rfl, rfl⟩
    obtain ⟨c', hu, hcs, hcj⟩ := upd_cells [.pointer (some ⟨blk, 0, none⟩)] 0 w _ h2 (by simp)
    have hst := stp_setBox (cs' := [.ptr b 0, c1]) hrel hb hρ hu ⟨_, h2⟩ rfl (by rw [hcs]; rfl) (fun j v p hv hp => by
      rw [hcj] at hv
      match j, hp with
      | 0, hp => simp at hv hp; subst hv hp; exact .ptr b 0 blk hρ
      | 1, hp => simp at hv hp; subst hv hp; exact r1
      | j + 2, hp => simp at hp)
    exact ⟨M, ρ, _, .ret (.tup []), hst, by simp, .tup [] [] rfl (by simp), hQ⟩
  · obtain ⟨blk', hx0, hρ'⟩ := r0.ptr_inv
    rw [hρ] at hρ'
    cases hρ'
    subst hx0
    refine (Tryd.copyCheck_used blk w (by simp [World.cell?, h2])).mono ?_
    rintro e w' ⟨rfl, rfl⟩
    exact ⟨M, ρ, σ, .ret (.tup []), Stp.refl hrel, rfl, .tup [] [] rfl (by simp), by rw [set_self hb] at hQ; exact hQ⟩

/-- The bytes of a list of bytes. -/
def bytesD (l : List UInt8) : List (List D) := l.map fun b => [.int .u8 b.toNat]

theorem T_String {b i : Nat} {c0 : PV} {l : List UInt8} {σ : Store} {Q : Out → Store → Prop} (hb : σ[b]? = some (.box 89 [c0, .lref i l.length])) (hi : σ[i]? = some (.lst (5, 1) (bytesD l)))
    (hQ : Q (.ret (.d (.str l))) σ) : T Γd 47 [.ptr b 0] σ Q := by
  refine ⟨by kernel_rfl, fun M ρ w vs hrel hgw hl ha => ?_⟩
  obtain ⟨v, rfl, hv⟩ := one_arg hl ha
  obtain ⟨blk, rfl, hρ⟩ := hv.ptr_inv
  obtain ⟨b', cs, e, h1, h2, h3, h4, h5⟩ := hrel.box b _ _ hb
  rw [hρ] at h1
  cases h1
  obtain ⟨hno, rfl⟩ := h5
  obtain ⟨x0, x1, rfl⟩ := two_cells h3
  have r1 := h4 1 x1 _ rfl rfl
  obtain ⟨sz, xs, cv, k1, k2, k3⟩ := r1.lref_inv
  rw [hi] at k1
  cases k1
  obtain rfl := k3 (by simp [bytesD])
  obtain ⟨u, q1, q2, q3, q4⟩ := hrel.lst i _ _ hi
  rw [k2] at q1
  cases q1
  obtain ⟨a, n, cap, rfl, hn, hcap, hbd⟩ := q2.slice_inv
  have hnl : n = l.length := by rw [← hn]; simp [bytesD]
  subst hnl
  have fin : ∀ (g : Option Nat) (n : Nat) (e : Ending) (w' : World), (∀ k, g = some k → ∃ a', a = some a' ∧ a'.block = k ∧ n ≤ l.length) → e = .returned (.string ⟨l.toArray⟩) ∧ Froze w w' g n →
      ∃ M' ρ' σ' o, Stp Γd M ρ σ w M' ρ' σ' w' ∧ σ'.length = σ.length ∧ RepOut M' ρ' σ' e o ∧ Q o σ' := by
    rintro g n e w' hg ⟨rfl, hf⟩
    refine ⟨M, ρ, σ, .ret (.d (.str l)), stp_froze hrel hf (fun k hk => ?_), rfl, .d _ _ (.str _ _ (by simp) hbd), hQ⟩
    obtain ⟨a', rfl, h6, h7⟩ := hg k hk
    exact ⟨i, _, _, a', cap, hi, by rw [show (bytesD l).length = l.length by simp [bytesD]]; exact k2, h6, by simpa [bytesD] using h7⟩
  cases a with
  | none =>
    have hl0 : l = [] := by
      cases l with
      | nil => rfl
      | cons x l =>
        obtain ⟨a', n', cap', sz, va, he, _, _, _, _, hcell, _⟩ := q2.slice_parts
        cases he
        obtain ⟨_, _, h6, _⟩ := hcell 0 [.int .u8 x.toNat] 0 _ rfl rfl
        cases h6
    subst hl0
    have hc0 : cap = 0 := by
      rcases Nat.eq_zero_or_pos cap with h6 | h6
      · exact h6
      · obtain ⟨_, _, _, _, _, h7, _⟩ := q4 _ _ _ rfl (.inl h6)
        cases h7
    subst hc0
    exact (Any.Builder_String_nil_x Tryd.lays169 Tryd.Builder_Extra_169 blk x0 w h2).mono fun e w' h => fin none 0 e w' (fun k hk => by cases hk) h
  | some a =>
    obtain ⟨g, o, cur, e, f, he, hh, ⟨hf1, rfl, rfl⟩, hfit, hM0⟩ := q4 _ _ _ rfl (.inr (by simp))
    cases he
    by_cases hl0 : l = []
    · subst hl0
      by_cases hc0 : cap = 0
      · subst hc0
        exact (Any.Builder_String_noroom_x Tryd.lays169 Tryd.Builder_Extra_169 blk g x0 cur w h2 f hh).mono fun e w' h => fin none 0 e w' (fun k hk => by cases hk) h
      · exact (Any.Builder_String_room_x Tryd.lays169 Tryd.Builder_Extra_169 blk g cap x0 w hc0 h2).mono fun e w' h => fin none 0 e w' (fun k hk => by cases hk) h
    · have hcells : ∀ (j : Nat) (x : UInt8), l[j]? = some x → w.cell? ⟨g, j, none⟩ = some (.int .u8 x.toNat) := fun j x hx => by
        obtain ⟨a', n', cap', sz, va, he, hn', _, _, hsz, hcell, hrep⟩ := q2.slice_parts
        cases he
        have hbx : (bytesD l)[j]? = some [.int .u8 x.toNat] := by simp [bytesD, hx]
        have hs1 : sz = 1 := by have := hsz _ (List.mem_of_getElem? hbx); simpa using this.symm
        subst hs1
        obtain ⟨b2, o2, h6, h7⟩ := hcell j _ 0 _ hbx rfl
        cases h6
        have h8 := (hrep j _ 0 _ hbx rfl).int_inv
        rw [h8] at h7
        have := hrel.mem _ _ _ h7
        simpa using this
      refine (Any.Builder_String_exact Tryd.lays169 Tryd.Builder_Extra_169 blk g cap cur x0 l w hl0 h2 f hh hcap (by simp only at hfit; omega) (by unfold maxLen; omega) hcells).mono fun e w' h => fin (some g) l.length e w' (fun k hk => ?_) h
      cases hk
      exact ⟨_, rfl, rfl, Nat.le_refl _⟩
end Go.Plane
end
section
set_option linter.unusedVariables false
set_option linter.unusedSimpArgs false
set_option maxRecDepth 100000
set_option maxHeartbeats 2000000
namespace Go.Plane
open Go Go.Proofs
theorem ft_copy0 {n : Nat} {sz : TypeId × Nat} {xs : List (List D)} : FT Γd 79 [.ptr 0 0] [.box 89 [.nilp, .lref 1 n], .lst sz xs] (.tup []) [.box 89 [.ptr 0 0, .lref 1 n], .lst sz xs] :=
  T_copyCheck rfl (.inl rfl) ⟨rfl, rfl⟩
theorem ft_copy1 {n : Nat} {sz : TypeId × Nat} {xs : List (List D)} : FT Γd 79 [.ptr 0 0] [.box 89 [.ptr 0 0, .lref 1 n], .lst sz xs] (.tup []) [.box 89 [.ptr 0 0, .lref 1 n], .lst sz xs] :=
  T_copyCheck rfl (.inr rfl) ⟨rfl, rfl⟩
/-- A builder that holds bytes: unused, or used. -/
abbrev bld (c : PV) (l : List UInt8) : Store := [.box 89 [c, .lref 1 l.length], .lst (5, 1) (bytesD l)]
theorem bytesD_append (a b : List UInt8) : bytesD (a ++ b) = bytesD a ++ bytesD b := by simp [bytesD]
theorem bytesD_length (a : List UInt8) : (bytesD a).length = a.length := by simp [bytesD]
theorem bytesD_len (a : List UInt8) : ∀ y ∈ a.map (fun b : UInt8 => [D.int .u8 b.toNat]), y.length = 1 := by simp
theorem ft_String (c : PV) (l : List UInt8) : FT Γd 47 [.ptr 0 0] (bld c l) (.d (.str l)) (bld c l) := T_String rfl rfl ⟨rfl, rfl⟩
theorem fn_ft {f : FuncId} {args : List PV} {σ' : Store} {v : PV} {σ0 : Store} {n : Nat} {rs : List RV} {body : IC} {env' : Env} {k : Nat} (hc : chkF Γd.P Γd.E f k ⟨n, rs, body⟩ = true) (hk : args.length = k) (he : Env.of args = env')
    (h : wic Γd body (fnPost rs σ0.length fun o s => o = .ret v ∧ s = σ') env' σ0) : FT Γd f args σ0 v σ' := fn_of hc hk he h
theorem ft_Len (c : PV) (l : List UInt8) (hc : c = .nilp ∨ c = .ptr 0 0) : FT Γd 46 [.ptr 0 0] (bld c l) (.d (.int .i64 l.length)) (bld c l) := by
  have h1 := bytesD_length l
  rcases hc with rfl | rfl
  · unfold bld
    refine fn_ft c46 rfl (by simp only [Env.of, List.zipIdx, List.map]; rfl) ?_
    repeat' (first | refine dr ?_ | (refine ds ?_ ?_ <;> intro hb) | ((with_reducible refine dbm ?_); first | exact db_nil | refine dbc ?_ ?_) | ((with_reducible refine natle ?_); first | assumption | omega | (simp; omega)))
    simp [Ent.exp, PV.exp, PV.ids, List.take_of_length_le, h1]
  · unfold bld
    refine fn_ft c46 rfl (by simp only [Env.of, List.zipIdx, List.map]; rfl) ?_
    repeat' (first | refine dr ?_ | (refine ds ?_ ?_ <;> intro hb) | ((with_reducible refine dbm ?_); first | exact db_nil | refine dbc ?_ ?_) | ((with_reducible refine natle ?_); first | assumption | omega | (simp; omega)))
    simp [Ent.exp, PV.exp, PV.ids, List.take_of_length_le, h1]
theorem ft_WS0 (l s : List UInt8) (hl : l.length + s.length ≤ 1073741824) : FT Γd 45 [.ptr 0 0, .d (.str s)] (bld .nilp l) (.tup [.d (.int .i64 s.length), .nili]) (bld (.ptr 0 0) (l ++ s)) := by
  unfold bld
  refine fn_ft c45 rfl (by simp only [Env.of, List.zipIdx, List.map]; rfl) ?_
  have h1 := bytesD_length l
  have h2 := bytesD_len s
  repeat' (first | ((with_reducible refine wcm ?_); first | refine cT (ft_copy0) ?_ | refine cT (ft_copy1) ?_) | refine dr ?_ | (refine ds ?_ ?_ <;> intro hb) | ((with_reducible refine dbm ?_); first | exact db_nil | refine dbc ?_ ?_) | ((with_reducible refine natle ?_); first | assumption | omega | (simp; omega)))
  simp [Ent.exp, PV.exp, PV.ids, bytesD_append, h1]
  simp [bytesD]
theorem ft_WS1 (l s : List UInt8) (hl : l.length + s.length ≤ 1073741824) : FT Γd 45 [.ptr 0 0, .d (.str s)] (bld (.ptr 0 0) l) (.tup [.d (.int .i64 s.length), .nili]) (bld (.ptr 0 0) (l ++ s)) := by
  unfold bld
  refine fn_ft c45 rfl (by simp only [Env.of, List.zipIdx, List.map]; rfl) ?_
  have h1 := bytesD_length l
  have h2 := bytesD_len s
  repeat' (first | ((with_reducible refine wcm ?_); first | refine cT (ft_copy0) ?_ | refine cT (ft_copy1) ?_) | refine dr ?_ | (refine ds ?_ ?_ <;> intro hb) | ((with_reducible refine dbm ?_); first | exact db_nil | refine dbc ?_ ?_) | ((with_reducible refine natle ?_); first | assumption | omega | (simp; omega)))
  simp [Ent.exp, PV.exp, PV.ids, bytesD_append, h1]
  simp [bytesD]
theorem ft_WB0 (l : List UInt8) (b : UInt8) (hl : l.length < 1073741824) : FT Γd 87 [.ptr 0 0, .d (.int .u8 b.toNat)] (bld .nilp l) .nili (bld (.ptr 0 0) (l ++ [b])) := by
  unfold bld
  refine fn_ft c87 rfl (by simp only [Env.of, List.zipIdx, List.map]; rfl) ?_
  have h1 := bytesD_length l
  repeat' (first | ((with_reducible refine wcm ?_); first | refine cT (ft_copy0) ?_ | refine cT (ft_copy1) ?_) | refine dr ?_ | (refine ds ?_ ?_ <;> intro hb) | ((with_reducible refine dbm ?_); first | exact db_nil | refine dbc ?_ ?_) | ((with_reducible refine natle ?_); first | assumption | omega | (simp; omega)))
  simp [Ent.exp, PV.exp, PV.ids, bytesD_append, h1]
  simp [bytesD]
theorem ft_WB1 (l : List UInt8) (b : UInt8) (hl : l.length < 1073741824) : FT Γd 87 [.ptr 0 0, .d (.int .u8 b.toNat)] (bld (.ptr 0 0) l) .nili (bld (.ptr 0 0) (l ++ [b])) := by
  unfold bld
  refine fn_ft c87 rfl (by simp only [Env.of, List.zipIdx, List.map]; rfl) ?_
  have h1 := bytesD_length l
  repeat' (first | ((with_reducible refine wcm ?_); first | refine cT (ft_copy0) ?_ | refine cT (ft_copy1) ?_) | refine dr ?_ | (refine ds ?_ ?_ <;> intro hb) | ((with_reducible refine dbm ?_); first | exact db_nil | refine dbc ?_ ?_) | ((with_reducible refine natle ?_); first | assumption | omega | (simp; omega)))
  simp [Ent.exp, PV.exp, PV.ids, bytesD_append, h1]
  simp [bytesD]
end Go.Plane
end
section
set_option linter.unusedVariables false
set_option linter.unusedSimpArgs false
set_option maxRecDepth 100000
namespace Go.Plane
open Go Go.Proofs
/-- A byte that must not stand in a comment. -/
def isBad (b : UInt8) : Bool := decide (b.toNat < 32 ∨ 126 < b.toNat)
def badRune (x : Nat) : Bool := decide (x < 32) || decide (126 < x)
theorem f_badRune (x : Nat) (hx : x ≤ 1114111) : F Γd 112 [.d (.int .i32 x)] (.d (.bool (badRune x))) := by
  refine fn_of c112 rfl (by simp only [Env.of, List.zipIdx, List.map]; rfl) ?_
  have h0 : badRune x = (decide ((x : Int) < 32) || decide (126 < (x : Int))) := by
    unfold badRune
    rw [show decide (x < 32) = decide ((x : Int) < 32) by rw [decide_eq_decide]; omega, show decide (126 < x) = decide (126 < (x : Int)) by rw [decide_eq_decide]; omega]
  rw [h0]
  repeat' (first | refine dr ?_ | (refine ds ?_ ?_ <;> intro hb) | ((with_reducible refine dbm ?_); first | exact db_nil | refine dbc ?_ ?_) | ((with_reducible refine natle ?_); first | assumption | omega | (simp; omega)))
  all_goals (simp [*]; done)
def badIdx (s : List UInt8) : Int := match s.findIdx? isBad with
  | some i => i
  | none => -1
theorem idxFrom_bad (s : List UInt8) : ∀ (f pos : Nat), s.length - pos ≤ f → Lib.idxFuncFrom badRune true ⟨s.toArray⟩ f pos = match (s.drop pos).findIdx? isBad with
    | some i => (pos : Int) + i
    | none => -1
  | f, pos, hf => by
    have hsz : (⟨s.toArray⟩ : ByteArray).size = s.length := by simp [ByteArray.size]
    by_cases hp : pos < s.length
    · obtain ⟨f, rfl⟩ : ∃ g, f = g + 1 := ⟨f - 1, by omega⟩
      have hpos : pos < (⟨s.toArray⟩ : ByteArray).size := by rw [hsz]; exact hp
      have hget : (⟨s.toArray⟩ : ByteArray)[pos]'hpos = s[pos] := by simp [ByteArray.getElem_eq_getElem_data]
      rw [List.drop_eq_getElem_cons hp]
      unfold Lib.idxFuncFrom
      rw [if_pos hpos, List.findIdx?_cons]
      rcases Nat.lt_or_ge (s[pos]).toNat 128 with h | h
      · rw [decode_ascii _ _ hpos (by rw [hget]; exact h), hget]
        simp only
        have hb : badRune (s[pos]).toNat = isBad s[pos] := by simp [badRune, isBad]
        rw [hb]
        cases hbad : isBad s[pos] with
        | true => simp
        | false =>
          simp only [Bool.false_eq_true, if_false]
          rw [idxFrom_bad s f (pos + 1) (by omega)]
          cases (s.drop (pos + 1)).findIdx? isBad with
          | none => rfl
          | some i =>
            simp only [Option.map_some]
            push_cast
            show (pos : Int) + 1 + (i : Int) = (pos : Int) + ((i : Int) + 1)
            omega
      · have hd := decode_high ⟨s.toArray⟩ pos hpos (by rw [hget]; exact h)
        have h1 : badRune (Utf8.decode ⟨s.toArray⟩ pos).1 = true := by simp [badRune]; omega
        have h2 : isBad s[pos] = true := by simp [isBad]; omega
        rw [h1, h2]
        simp
    · rw [Lib.idxFuncFrom_end _ _ _ _ _ (by rw [hsz]; exact hp), List.drop_of_length_le (by omega)]
      rfl
theorem f_noteBad (s : List UInt8) : F Γd 111 [.d (.str s), .fn 112 [] []] (.d (.int .i64 (badIdx s))) := by
  have h := F_IndexFunc 112 badRune f_badRune s
  have : Lib.idxFunc badRune true ⟨s.toArray⟩ = badIdx s := by
    unfold Lib.idxFunc badIdx
    rw [idxFrom_bad s _ 0 (by simp [ByteArray.size])]
    simp only [List.drop_zero]
    cases s.findIdx? isBad <;> simp
  rw [this] at h
  exact h

/-- A piece of a line: its kind, its text, at which byte, the error. -/
structure Pc where
  k : Int
  s : List UInt8
  a : Int
  e : Int
def Pc.row (p : Pc) : List D := [.int .i64 p.k, .str p.s, .int .i64 0, .int .i64 0, .int .i64 p.a, .int .i64 p.e]
/-- The piece that begins with no blank, and how many bytes it has. -/
def pieceM (a : Int) (b : UInt8) (r : List UInt8) : Pc × Nat :=
  if [45, 45].isPrefixOf (b :: r) then (if badIdx (b :: r) ≥ 0 then (⟨0, [], a + badIdx (b :: r), 2⟩, (b :: r).length) else (⟨6, b :: r, a, 0⟩, (b :: r).length))
  else if 0 < (List.takeWhile isPart (b :: r)).length ∧ b ≠ 95 then
    (⟨(shapeM ((b :: r).take (List.takeWhile isPart (b :: r)).length)).1, (b :: r).take (List.takeWhile isPart (b :: r)).length, a, (shapeM ((b :: r).take (List.takeWhile isPart (b :: r)).length)).2⟩, (List.takeWhile isPart (b :: r)).length)
  else (⟨5, signM (b :: r), a, if (signM (b :: r)).length = 0 then 2 else 0⟩, (signM (b :: r)).length)
def scanF : Nat → Nat → List UInt8 → List Pc
  | 0, _, _ => []
  | _ + 1, _, [] => []
  | f + 1, i, b :: r => if b = 32 then scanF f (i + 1) r else
    (pieceM i b r).1 :: if (pieceM i b r).1.e ≠ 0 then [] else scanF f (i + (pieceM i b r).2) ((b :: r).drop (pieceM i b r).2)
/-- The pieces of a line, up to the first error. -/
def scanM (s : List UInt8) : List Pc := scanF s.length 0 s
end Go.Plane
end
section
set_option linter.unusedVariables false
namespace Go.Plane
open Go

/-! ### Iterators -/
section
variable {Γ : Cfg} {Y : YSpec Γ.P} {M M' : Mem} {ρ ρ' : List Gh} {σ σ' : Store} {w w' : World}
theorem Rel.noY (h : Rel { Γ with Y := Y } M ρ σ w) : Rel Γ M ρ σ w := ⟨h.gl, h.mem, h.len, h.box, h.lst, h.inj⟩
theorem Rel.inY (h : Rel Γ M ρ σ w) : Rel { Γ with Y := Y } M ρ σ w := ⟨h.gl, h.mem, h.len, h.box, h.lst, h.inj⟩
theorem Stp.inY (h : Stp Γ M ρ σ w M' ρ' σ' w') : Stp { Γ with Y := Y } M ρ σ w M' ρ' σ' w' := ⟨h.ext, h.rel.inY, h.blk, h.tr⟩
theorem T.inY {f : FuncId} {args : List PV} {Q : Out → Store → Prop} (h : T Γ f args σ Q) : T { Γ with Y := Y } f args σ Q :=
  ⟨h.1, fun M ρ w vs hr hg hl ha => (h.2 M ρ w vs hr.noY hg hl ha).mono fun e w' ⟨M', ρ', σ', o, k1, k2⟩ => ⟨M', ρ', σ', o, k1.inY, k2⟩⟩
end

section
variable {Γ : Cfg} {env : Env} {σ : Store} {Q : Ex → Env → Store → Prop}
theorem Iter_run {f : FuncId} {caps : List PV} {xs : List (List D)} {n : Nat} {body : IC} {env' : Nat → Env} {k : Nat} (hc : chkF Γ.P Γ.E f k ⟨n, [], body⟩ = true) (hk : caps.length + 1 = k) (hflat : ∀ x ∈ xs, ∀ d ∈ x, ∀ l, d ≠ .slice l)
    (he : ∀ l, (Env.of (.yl l :: caps)).put 1000000000 (.cnt 0) = env' l)
    (h : ∀ Γ' : Cfg, Γ'.Y.xs = xs → (∀ {f : FuncId} {az : List PV} {v : PV}, F Γ f az v → F Γ' f az v) → wic Γ' body (itPost xs.length) (env' Γ'.Y.l) []) : Iter Γ f caps xs := by
  subst hk
  refine Iter_of hc rfl hflat fun Y hY => ?_
  have := h { Γ with Y := Y } hY (fun hF => T.inY hF)
  rw [← he] at this
  exact this

theorem oy {d l k : Nat} {x y : Opd} {r : List Ac} {cs : List D} (ht : wops Γ r Q ((1000000000, .cnt (k + 1)) :: (d, .d (.bool true)) :: env) σ) (hf : wops Γ r Q ((1000000000, .stp) :: (d, .d (.bool false)) :: env) σ)
    (hx : x.val env = .yl l := by ((try simp only [*, evq, evBin, optInt, intsOf, PV.elems, PV.dc1, PV.dcs, dc1L, fillD, splice, evLoad, Option.map_some, Option.map_none, get_cons, val_t, val_k, val_f, Nat.reduceEqDiff, Nat.succ_ne_self, ↓reduceIte, reduceCtorEq, List.length_cons, List.length_nil, List.take_succ_cons, List.take_zero, List.drop_succ_cons, List.drop_zero, List.append_nil, List.nil_append, List.cons_append, List.getElem?_cons_zero, List.getElem?_cons_succ, List.getElem?_nil, Nat.reduceAdd, Nat.reduceLeDiff, Nat.reduceSub, Nat.reduceMul, Nat.zero_add, and_self, and_true, true_and, List.foldl_cons, List.foldl_nil, shaped, D.isK, eqDs, D.eqv, Bool.and_true, Bool.true_and, decide_true, decide_false, beq_self_eq_true, bne_self_eq_false, List.set_cons_zero, List.set_cons_succ, Env.keep, List.map, eve, elemsD, PV.cellsOf, setCellsP, rvs, RV.get, retOf, expR, PV.argOf, PV.exp, PV.ids, PV.ids.idsL, List.all_nil, shrink, List.take_nil, Int.toNat_natCast, Int.toNat_zero, Int.natCast_nonneg, Int.le_refl, Bool.not_true, Bool.not_false, Ac.dst, Ac.gd]) <;> rfl)) (hy : y.val env = .agg cs := by ((try simp only [*, evq, evBin, optInt, intsOf, PV.elems, PV.dc1, PV.dcs, dc1L, fillD, splice, evLoad, Option.map_some, Option.map_none, get_cons, val_t, val_k, val_f, Nat.reduceEqDiff, Nat.succ_ne_self, ↓reduceIte, reduceCtorEq, List.length_cons, List.length_nil, List.take_succ_cons, List.take_zero, List.drop_succ_cons, List.drop_zero, List.append_nil, List.nil_append, List.cons_append, List.getElem?_cons_zero, List.getElem?_cons_succ, List.getElem?_nil, Nat.reduceAdd, Nat.reduceLeDiff, Nat.reduceSub, Nat.reduceMul, Nat.zero_add, and_self, and_true, true_and, List.foldl_cons, List.foldl_nil, shaped, D.isK, eqDs, D.eqv, Bool.and_true, Bool.true_and, decide_true, decide_false, beq_self_eq_true, bne_self_eq_false, List.set_cons_zero, List.set_cons_succ, Env.keep, List.map, eve, elemsD, PV.cellsOf, setCellsP, rvs, RV.get, retOf, expR, PV.argOf, PV.exp, PV.ids, PV.ids.idsL, List.all_nil, shrink, List.take_nil, Int.toNat_natCast, Int.toNat_zero, Int.natCast_nonneg, Int.le_refl, Bool.not_true, Bool.not_false, Ac.dst, Ac.gd]) <;> rfl)) (hk : env.get 1000000000 = .cnt k := by ((try simp only [*, evq, evBin, optInt, intsOf, PV.elems, PV.dc1, PV.dcs, dc1L, fillD, splice, evLoad, Option.map_some, Option.map_none, get_cons, val_t, val_k, val_f, Nat.reduceEqDiff, Nat.succ_ne_self, ↓reduceIte, reduceCtorEq, List.length_cons, List.length_nil, List.take_succ_cons, List.take_zero, List.drop_succ_cons, List.drop_zero, List.append_nil, List.nil_append, List.cons_append, List.getElem?_cons_zero, List.getElem?_cons_succ, List.getElem?_nil, Nat.reduceAdd, Nat.reduceLeDiff, Nat.reduceSub, Nat.reduceMul, Nat.zero_add, and_self, and_true, true_and, List.foldl_cons, List.foldl_nil, shaped, D.isK, eqDs, D.eqv, Bool.and_true, Bool.true_and, decide_true, decide_false, beq_self_eq_true, bne_self_eq_false, List.set_cons_zero, List.set_cons_succ, Env.keep, List.map, eve, elemsD, PV.cellsOf, setCellsP, rvs, RV.get, retOf, expR, PV.argOf, PV.exp, PV.ids, PV.ids.idsL, List.all_nil, shrink, List.take_nil, Int.toNat_natCast, Int.toNat_zero, Int.natCast_nonneg, Int.le_refl, Bool.not_true, Bool.not_false, Ac.dst, Ac.gd]) <;> rfl)) (hl : l = Γ.Y.l := by rfl) (hxs : Γ.Y.xs[k]? = some cs := by assumption) : wops Γ (.yld (some d) x y :: r) Q env σ := by
  rw [wops]
  simp only [wio]
  rw [hx, hy, show env.get cntT = .cnt k from hk]
  exact ⟨hl, hxs, ht, hf⟩
theorem orf {g : Opd} {p n : Nat} {a b : IC} {gf : FuncId} {caps : List PV} {xs : List (List D)} (hi : Iter Γ gf caps xs) (h : rfK (fun K e s => wic Γ a (Ex.then (fun e s => wic Γ b K ((1000000000, .undef) :: e) s) (fun _ _ _ => False)) e s) Q env n p xs σ)
    (hg : g.val env = .fn gf [] caps := by ((try simp only [*, evq, evBin, optInt, intsOf, PV.elems, PV.dc1, PV.dcs, dc1L, fillD, splice, evLoad, Option.map_some, Option.map_none, get_cons, val_t, val_k, val_f, Nat.reduceEqDiff, Nat.succ_ne_self, ↓reduceIte, reduceCtorEq, List.length_cons, List.length_nil, List.take_succ_cons, List.take_zero, List.drop_succ_cons, List.drop_zero, List.append_nil, List.nil_append, List.cons_append, List.getElem?_cons_zero, List.getElem?_cons_succ, List.getElem?_nil, Nat.reduceAdd, Nat.reduceLeDiff, Nat.reduceSub, Nat.reduceMul, Nat.zero_add, and_self, and_true, true_and, List.foldl_cons, List.foldl_nil, shaped, D.isK, eqDs, D.eqv, Bool.and_true, Bool.true_and, decide_true, decide_false, beq_self_eq_true, bne_self_eq_false, List.set_cons_zero, List.set_cons_succ, Env.keep, List.map, eve, elemsD, PV.cellsOf, setCellsP, rvs, RV.get, retOf, expR, PV.argOf, PV.exp, PV.ids, PV.ids.idsL, List.all_nil, shrink, List.take_nil, Int.toNat_natCast, Int.toNat_zero, Int.natCast_nonneg, Int.le_refl, Bool.not_true, Bool.not_false, Ac.dst, Ac.gd]) <;> rfl)) (hp : (env.get 1000000000).plain = true := by ((simp [get_cons, Env.get, PV.plain]) <;> rfl)) (hc : PV.ids.idsL caps = [] := by rfl) (hn : σ.length = n := by rfl) : wic Γ (.rf g p a b) Q env σ := by
  subst hn
  refine ⟨hp, ?_⟩
  rw [hg]
  exact ⟨hc, xs, hi, h⟩
/-- What is asked at a round's end. -/
def rkK (Q : Ex → Env → Store → Prop) (env : Env) (n : Nat) (Nx : Store → Prop) : Ex → Env → Store → Prop
  | .normal, _, σ => Nx (shrink n σ)
  | .exit i, _, σ => Q (.exit i) env (shrink n σ)
  | .ret, _, σ => Q .ret env (shrink n σ)
  | .panic _, _, _ => False
theorem rk_ret {n : Nat} {Nx : Store → Prop} {e : Env} {σ' : Store} (h : Q .ret env σ') (hs : shrink n σ = σ' := by ((try simp only [*, evq, evBin, optInt, intsOf, PV.elems, PV.dc1, PV.dcs, dc1L, fillD, splice, evLoad, Option.map_some, Option.map_none, get_cons, val_t, val_k, val_f, Nat.reduceEqDiff, Nat.succ_ne_self, ↓reduceIte, reduceCtorEq, List.length_cons, List.length_nil, List.take_succ_cons, List.take_zero, List.drop_succ_cons, List.drop_zero, List.append_nil, List.nil_append, List.cons_append, List.getElem?_cons_zero, List.getElem?_cons_succ, List.getElem?_nil, Nat.reduceAdd, Nat.reduceLeDiff, Nat.reduceSub, Nat.reduceMul, Nat.zero_add, and_self, and_true, true_and, List.foldl_cons, List.foldl_nil, shaped, D.isK, eqDs, D.eqv, Bool.and_true, Bool.true_and, decide_true, decide_false, beq_self_eq_true, bne_self_eq_false, List.set_cons_zero, List.set_cons_succ, Env.keep, List.map, eve, elemsD, PV.cellsOf, setCellsP, rvs, RV.get, retOf, expR, PV.argOf, PV.exp, PV.ids, PV.ids.idsL, List.all_nil, shrink, List.take_nil, Int.toNat_natCast, Int.toNat_zero, Int.natCast_nonneg, Int.le_refl, Bool.not_true, Bool.not_false, Ac.dst, Ac.gd]) <;> rfl)) : rkK Q env n Nx .ret e σ := by subst hs; exact h
theorem rk_exit {n i : Nat} {Nx : Store → Prop} {e : Env} {σ' : Store} (h : Q (.exit i) env σ') (hs : shrink n σ = σ' := by ((try simp only [*, evq, evBin, optInt, intsOf, PV.elems, PV.dc1, PV.dcs, dc1L, fillD, splice, evLoad, Option.map_some, Option.map_none, get_cons, val_t, val_k, val_f, Nat.reduceEqDiff, Nat.succ_ne_self, ↓reduceIte, reduceCtorEq, List.length_cons, List.length_nil, List.take_succ_cons, List.take_zero, List.drop_succ_cons, List.drop_zero, List.append_nil, List.nil_append, List.cons_append, List.getElem?_cons_zero, List.getElem?_cons_succ, List.getElem?_nil, Nat.reduceAdd, Nat.reduceLeDiff, Nat.reduceSub, Nat.reduceMul, Nat.zero_add, and_self, and_true, true_and, List.foldl_cons, List.foldl_nil, shaped, D.isK, eqDs, D.eqv, Bool.and_true, Bool.true_and, decide_true, decide_false, beq_self_eq_true, bne_self_eq_false, List.set_cons_zero, List.set_cons_succ, Env.keep, List.map, eve, elemsD, PV.cellsOf, setCellsP, rvs, RV.get, retOf, expR, PV.argOf, PV.exp, PV.ids, PV.ids.idsL, List.all_nil, shrink, List.take_nil, Int.toNat_natCast, Int.toNat_zero, Int.natCast_nonneg, Int.le_refl, Bool.not_true, Bool.not_false, Ac.dst, Ac.gd]) <;> rfl)) : rkK Q env n Nx (.exit i) e σ := by subst hs; exact h
/-- By what is left to be yielded. -/
theorem rfK_ind {β α : Type} {B : (Ex → Env → Store → Prop) → Env → Store → Prop} {p n : Nat} {σ : Store} (row : β → List D) (S : α → Store) (I : List β → α → Prop) (xs : List β) (a0 : α) (hs : S a0 = σ) (h0 : I xs a0)
    (hend : ∀ a, I [] a → Q .normal env (S a))
    (hstep : ∀ x xs a, I (x :: xs) a → ∀ Nx : Store → Prop, (∀ b σ', I xs b → σ' = S b → Nx σ') → B (rkK Q env n Nx) ((p, .agg (row x)) :: env) (S a)) : rfK B Q env n p (xs.map row) σ := by
  subst hs
  induction xs generalizing a0 with
  | nil => exact hend a0 h0
  | cons x xs ih =>
    simp only [List.map_cons, rfK]
    have h := hstep x xs a0 h0 (fun s => rfK B Q env n p (xs.map row) s) fun b σ' hI hb => by rw [hb]; exact ih b hI
    have he : rkK Q env n (fun s => rfK B Q env n p (xs.map row) s) = fun ex _ σ' => match ex with
        | .normal => rfK B Q env n p (xs.map row) (shrink n σ')
        | .exit i => Q (.exit i) env (shrink n σ')
        | .ret => Q .ret env (shrink n σ')
        | .panic _ => False := by
      funext ex e σ'
      cases ex <;> rfl
    rw [he] at h
    exact h
end
end Go.Plane
end
section
set_option linter.unusedVariables false
set_option linter.unusedSimpArgs false
set_option maxRecDepth 100000
set_option maxHeartbeats 2000000
namespace Go.Plane
open Go Go.Proofs
theorem scan_nil {f i : Nat} : scanF f i [] = [] := by cases f <;> rfl
theorem row_at {L : List Pc} {k : Nat} {p : Pc} {q : List Pc} (h : p :: q = L.drop k) : (L.map Pc.row)[k]? = some p.row ∧ q = L.drop (k + 1) ∧ k < L.length := by
  have hk : k < L.length := by
    apply Decidable.byContradiction
    intro hn
    rw [List.drop_of_length_le (by omega)] at h
    cases h
  rw [List.drop_eq_getElem_cons hk] at h
  injection h with h1 h2
  refine ⟨?_, h2, hk⟩
  rw [List.getElem?_map, List.getElem?_eq_getElem hk, ← h1]
  rfl
theorem pc_flat (L : List Pc) : ∀ x ∈ L.map Pc.row, ∀ d ∈ x, ∀ l, d ≠ .slice l := by
  intro x hx d hd l he
  obtain ⟨p, _, rfl⟩ := List.mem_map.1 hx
  subst he
  simp [Pc.row] at hd
theorem badIdx_lt (s : List UInt8) : badIdx s < s.length ∨ badIdx s = -1 := by
  unfold badIdx
  cases h : s.findIdx? isBad with
  | none => right; rfl
  | some i => left; have := List.findIdx?_eq_some_iff_getElem.1 h; obtain ⟨h1, _⟩ := this; simp only; omega
theorem signM_le (s : List UInt8) : (signM s).length ≤ s.length := by
  unfold signM
  cases h : signs.find? (fun x => x.isPrefixOf s) with
  | none => simp
  | some x =>
    have := List.find?_some h
    simpa using (List.isPrefixOf_iff_prefix.1 this).length_le
theorem it_pieces (s : List UInt8) (hs : s.length ≤ 4294967296) : Iter Γd 110 [.cptr [.str s] 0] ((scanM s).map Pc.row) := by
  refine Iter_run c110 rfl (pc_flat _) (fun l => by simp only [Env.of, List.zipIdx, List.map, Env.put]; rfl) ?_
  intro Γ' hY hF
  repeat' (first | refine dr ?_ | (refine ds ?_ ?_ <;> intro hb) | ((with_reducible refine dbm ?_); first | exact db_nil | refine dbc ?_ ?_) | ((with_reducible refine natle ?_); first | assumption | omega | (simp; omega)))
  refine LP_ind (α := Nat × Nat) (fun a => s.length - a.1) (fun a => [(0, .yl Γ'.Y.l), (1, .cptr [.str s] 0), (3, .d (.int .i64 a.1)), (1000000000, .cnt a.2)]) (fun _ => [])
    (fun a => a.1 ≤ s.length ∧ a.2 ≤ (scanM s).length ∧ ∃ f, s.length - a.1 ≤ f ∧ scanF f a.1 (s.drop a.1) = (scanM s).drop a.2) (0, 0) rfl rfl ⟨Nat.zero_le _, Nat.zero_le _, s.length, by omega, rfl⟩ ?_
  rintro ⟨i, k⟩ ⟨h1, hkl, f, hf, hsc⟩ ih
  simp only at h1 hkl hf hsc
  apply LP_go
  rcases hx : s.drop i with _ | ⟨b, r⟩
  · have hi : i = s.length := by
      have := congrArg List.length hx
      simp at this
      omega
    subst hi
    repeat' (first | refine dr ?_ | (refine ds ?_ ?_ <;> intro hb) | ((with_reducible refine dbm ?_); first | exact db_nil | refine dbc ?_ ?_) | ((with_reducible refine natle ?_); first | assumption | omega | (simp; omega)))
    rw [hx, scan_nil] at hsc
    have hk : (scanM s).length ≤ k := List.drop_eq_nil_iff.1 hsc.symm
    left
    have : k = (scanM s).length := by omega
    simp [get_cons, this, cntT]
  · have hlen : s.length = i + (r.length + 1) := by
      have := congrArg List.length hx
      simp at this
      omega
    obtain ⟨g, rfl⟩ : ∃ g, f = g + 1 := ⟨f - 1, by omega⟩
    rw [hx] at hsc
    simp only [scanF] at hsc
    have hdrop : ∀ n, (b :: r).drop n = s.drop (i + n) := fun n => by rw [← hx, List.drop_drop]
    have hb0 : (b :: r)[0]? = some b := rfl
    have hbr : (b :: r).length ≤ 4294967296 := by simp; omega
    have hrun := hF (f_run (b :: r) hbr)
    by_cases hb : b = 32
    · rw [if_pos hb] at hsc
      have hb' : (b.toNat : Int) = 32 := by rw [hb]; rfl
      have hr : s.drop (i + 1) = r := (hdrop 1).symm
      clear hb
      repeat' (first | ((with_reducible refine wcm ?_); first | refine cF (hrun) ?_) | refine dr ?_ | (refine ds ?_ ?_ <;> intro hb) | ((with_reducible refine dbm ?_); first | exact db_nil | refine dbc ?_ ?_) | ((with_reducible refine natle ?_); first | assumption | omega | (simp; omega)))
      refine LP_at ?_ rfl (ih (i + 1, k) ⟨by simp only; omega, hkl, g, by simp only; omega, by simp only; rw [hr]; exact hsc⟩ (by simp only; omega))
      (first | (simp [Env.shr, Env.get, PV.exp, PV.ids, PV.ids.idsL]; done) | simp [Env.shr, Env.get, PV.exp, PV.ids, PV.ids.idsL, *])
    · rw [if_neg hb] at hsc
      have hb' : (b.toNat : Int) ≠ 32 := by
        have := byte_eq b 32 (by decide)
        rw [Bool.eq_iff_iff, beq_iff_eq, beq_iff_eq] at this
        exact fun h => hb (this.1 h)
      obtain ⟨hxs, hrest, hkl'⟩ := row_at hsc
      rw [← hY] at hxs
      rw [hdrop] at hrest
      clear hsc hb
      have hend : ∀ {e : Ex} {p0 p1 p2 p3 p4 : PV} {st : Store}, [] = (scanM s).drop (k + 1) → e = .ret → itPost (List.map Pc.row (scanM s)).length e [(0, p0), (1, p1), (3, p2), (6, p3), (87, p4), (1000000000, .cnt (k + 1))] st := by
        intro e p0 p1 p2 p3 p4 st h he
        have h2 : (scanM s).length ≤ k + 1 := List.drop_eq_nil_iff.1 h.symm
        have h3 : k + 1 = (scanM s).length := by omega
        subst he
        left
        simp [get_cons, h3, cntT]
      have hstp : ∀ {e : Ex} {p0 p1 p2 p3 p4 : PV} {st : Store}, e = .ret → itPost (List.map Pc.row (scanM s)).length e [(0, p0), (1, p1), (3, p2), (6, p3), (87, p4), (1000000000, .stp)] st := by
        intro e p0 p1 p2 p3 p4 st he
        subst he
        right
        simp [get_cons, cntT]
      have hp := F_HasPrefix (b :: r) [45, 45]
      cases hpre : [45, 45].isPrefixOf (b :: r) with
      | true =>
        rw [hpre] at hp
        have hp := hF hp
        have hbad := hF (f_noteBad (b :: r))
        by_cases hbi : 0 ≤ badIdx (b :: r)
        · have hpm : pieceM i b r = (⟨0, [], i + badIdx (b :: r), 2⟩, (b :: r).length) := by unfold pieceM; rw [if_pos hpre, if_pos hbi]
          rw [hpm] at hxs hrest
          simp only [Pc.row, ne_eq] at hxs hrest
          rw [if_pos (by decide)] at hrest
          have hbi2 : badIdx (b :: r) ≤ 4294967296 := by
            have := badIdx_lt (b :: r)
            omega
          clear hpm hpre
          repeat' (first | (refine oy ?_ ?_) | ((with_reducible refine wcm ?_); first | refine cF (hrun) ?_ | refine cF (hp) ?_ | refine cF (hbad) ?_) | refine dr ?_ | (refine ds ?_ ?_ <;> intro hb) | ((with_reducible refine dbm ?_); first | exact db_nil | refine dbc ?_ ?_) | ((with_reducible refine natle ?_); first | assumption | omega | (simp; omega)))
          all_goals first | exact hstp rfl | exact hend hrest rfl
        · have hpm : pieceM i b r = (⟨6, b :: r, i, 0⟩, (b :: r).length) := by unfold pieceM; rw [if_pos hpre, if_neg hbi]
          rw [hpm] at hxs hrest
          simp only [Pc.row, ne_eq] at hxs hrest
          rw [if_neg (by decide)] at hrest
          clear hpm hpre
          repeat' (first | (refine oy ?_ ?_) | ((with_reducible refine wcm ?_); first | refine cF (hrun) ?_ | refine cF (hp) ?_ | refine cF (hbad) ?_) | refine dr ?_ | (refine ds ?_ ?_ <;> intro hb) | ((with_reducible refine dbm ?_); first | exact db_nil | refine dbc ?_ ?_) | ((with_reducible refine natle ?_); first | assumption | omega | (simp; omega)))
          all_goals first
            | exact hstp rfl
            | (refine LP_at ?_ rfl (ih (i + (r.length + 1), k + 1) ⟨by simp only; omega, by simp only; omega, g, by simp only; omega, hrest⟩ (by simp only; omega)); (first | (simp [Env.shr, Env.get, PV.exp, PV.ids, PV.ids.idsL]; done) | simp [Env.shr, Env.get, PV.exp, PV.ids, PV.ids.idsL, *]))
      | false =>
        rw [hpre] at hp
        have hp := hF hp
        by_cases hn0 : 0 < (List.takeWhile isPart (b :: r)).length
        · have hnle : (List.takeWhile isPart (b :: r)).length ≤ (b :: r).length := (List.takeWhile_sublist _).length_le
          by_cases h95 : b = 95
          · have hb95 : (b.toNat : Int) = 95 := by rw [h95]; rfl
            have hpm : pieceM i b r = (⟨5, signM (b :: r), i, if (signM (b :: r)).length = 0 then 2 else 0⟩, (signM (b :: r)).length) := by
              unfold pieceM; rw [if_neg (by rw [hpre]; decide), if_neg (fun h => h.2 h95)]
            rw [hpm] at hxs hrest
            clear hpm hpre h95
            have hsg := hF (f_sign (b :: r))
            have hsl : (signM (b :: r)).length ≤ (b :: r).length := signM_le (b :: r)
            generalize signM (b :: r) = t at *
            simp only [Pc.row, ne_eq] at hxs hrest
            by_cases hl : t.length = 0
            · rw [if_pos hl] at hxs
              rw [if_pos (by simp [hl])] at hrest
              repeat' (first | (refine oy ?_ ?_) | ((with_reducible refine wcm ?_); first | refine cF (hrun) ?_ | refine cF (hp) ?_ | refine cF (hsg) ?_) | refine dr ?_ | (refine ds ?_ ?_ <;> intro hb) | ((with_reducible refine dbm ?_); first | exact db_nil | refine dbc ?_ ?_) | ((with_reducible refine natle ?_); first | assumption | omega | (simp; omega)))
              all_goals first | exact hstp rfl | exact hend hrest rfl
            · rw [if_neg hl] at hxs
              rw [if_neg (by simp [hl])] at hrest
              repeat' (first | (refine oy ?_ ?_) | ((with_reducible refine wcm ?_); first | refine cF (hrun) ?_ | refine cF (hp) ?_ | refine cF (hsg) ?_) | refine dr ?_ | (refine ds ?_ ?_ <;> intro hb) | ((with_reducible refine dbm ?_); first | exact db_nil | refine dbc ?_ ?_) | ((with_reducible refine natle ?_); first | assumption | omega | (simp; omega)))
              all_goals first
                | exact hstp rfl
                | (refine LP_at ?_ rfl (ih (i + t.length, k + 1) ⟨by simp only; simp at hsl; omega, by simp only; omega, g, by simp only; omega, hrest⟩ (by simp only; simp at hsl; omega)); (first | (simp [Env.shr, Env.get, PV.exp, PV.ids, PV.ids.idsL]; done) | simp [Env.shr, Env.get, PV.exp, PV.ids, PV.ids.idsL, *]))
          · have hb95 : (b.toNat : Int) ≠ 95 := by
              have := byte_eq b 95 (by decide)
              rw [Bool.eq_iff_iff, beq_iff_eq, beq_iff_eq] at this
              exact fun h => h95 (this.1 h)
            have hsh := hF (f_Shape ((b :: r).take (List.takeWhile isPart (b :: r)).length) (by rw [List.length_take]; omega))
            have hpm : pieceM i b r = (⟨(shapeM ((b :: r).take (List.takeWhile isPart (b :: r)).length)).1, (b :: r).take (List.takeWhile isPart (b :: r)).length, i, (shapeM ((b :: r).take (List.takeWhile isPart (b :: r)).length)).2⟩, (List.takeWhile isPart (b :: r)).length) := by
              unfold pieceM; rw [if_neg (by rw [hpre]; decide), if_pos ⟨hn0, h95⟩]
            rw [hpm] at hxs hrest
            clear hpm hpre h95
            generalize ht : (b :: r).take (List.takeWhile isPart (b :: r)).length = t at *
            generalize hn : (List.takeWhile isPart (b :: r)).length = n at *
            simp only [Pc.row, ne_eq] at hxs hrest
            by_cases he : (shapeM t).2 = 0
            · rw [if_neg (by simp [he])] at hrest
              rw [he] at hxs
              repeat' (first | (refine oy ?_ ?_) | ((with_reducible refine wcm ?_); first | refine cF (hrun) ?_ | refine cF (hp) ?_ | refine cF (hsh) ?_) | refine dr ?_ | (refine ds ?_ ?_ <;> intro hb) | ((with_reducible refine dbm ?_); first | exact db_nil | refine dbc ?_ ?_) | ((with_reducible refine natle ?_); first | assumption | omega | (simp; omega)))
              all_goals first
                | exact hstp rfl
                | (refine LP_at ?_ rfl (ih (i + n, k + 1) ⟨by simp only; simp at hnle; omega, by simp only; omega, g, by simp only; omega, hrest⟩ (by simp only; simp at hnle; omega)); (first | (simp [Env.shr, Env.get, PV.exp, PV.ids, PV.ids.idsL]; done) | simp [Env.shr, Env.get, PV.exp, PV.ids, PV.ids.idsL, *]))
            · rw [if_pos (by simp [he])] at hrest
              repeat' (first | (refine oy ?_ ?_) | ((with_reducible refine wcm ?_); first | refine cF (hrun) ?_ | refine cF (hp) ?_ | refine cF (hsh) ?_) | refine dr ?_ | (refine ds ?_ ?_ <;> intro hb) | ((with_reducible refine dbm ?_); first | exact db_nil | refine dbc ?_ ?_) | ((with_reducible refine natle ?_); first | assumption | omega | (simp; omega)))
              all_goals first | exact hstp rfl | exact hend hrest rfl
        · have hn00 : (List.takeWhile isPart (b :: r)).length = 0 := by omega
          have hpm : pieceM i b r = (⟨5, signM (b :: r), i, if (signM (b :: r)).length = 0 then 2 else 0⟩, (signM (b :: r)).length) := by
            unfold pieceM; rw [if_neg (by rw [hpre]; decide), if_neg (fun h => hn0 h.1)]
          rw [hpm] at hxs hrest
          clear hpm hpre
          have hsg := hF (f_sign (b :: r))
          have hsl : (signM (b :: r)).length ≤ (b :: r).length := signM_le (b :: r)
          generalize signM (b :: r) = t at *
          simp only [Pc.row, ne_eq] at hxs hrest
          by_cases hl : t.length = 0
          · rw [if_pos hl] at hxs
            rw [if_pos (by simp [hl])] at hrest
            repeat' (first | (refine oy ?_ ?_) | ((with_reducible refine wcm ?_); first | refine cF (hrun) ?_ | refine cF (hp) ?_ | refine cF (hsg) ?_) | refine dr ?_ | (refine ds ?_ ?_ <;> intro hb) | ((with_reducible refine dbm ?_); first | exact db_nil | refine dbc ?_ ?_) | ((with_reducible refine natle ?_); first | assumption | omega | (simp; omega)))
            all_goals first | exact hstp rfl | exact hend hrest rfl
          · rw [if_neg hl] at hxs
            rw [if_neg (by simp [hl])] at hrest
            repeat' (first | (refine oy ?_ ?_) | ((with_reducible refine wcm ?_); first | refine cF (hrun) ?_ | refine cF (hp) ?_ | refine cF (hsg) ?_) | refine dr ?_ | (refine ds ?_ ?_ <;> intro hb) | ((with_reducible refine dbm ?_); first | exact db_nil | refine dbc ?_ ?_) | ((with_reducible refine natle ?_); first | assumption | omega | (simp; omega)))
            all_goals first
              | exact hstp rfl
              | (refine LP_at ?_ rfl (ih (i + t.length, k + 1) ⟨by simp only; simp at hsl; omega, by simp only; omega, g, by simp only; omega, hrest⟩ (by simp only; simp at hsl; omega)); (first | (simp [Env.shr, Env.get, PV.exp, PV.ids, PV.ids.idsL]; done) | simp [Env.shr, Env.get, PV.exp, PV.ids, PV.ids.idsL, *]))
end Go.Plane
end
section
set_option linter.unusedVariables false
set_option linter.unusedSimpArgs false
set_option maxRecDepth 100000
set_option maxHeartbeats 2000000
namespace Go.Plane
open Go Go.Proofs
theorem f_pieces (s : List UInt8) : F Γd 80 [.d (.str s)] (.fn 110 [] [.cptr [.str s] 0]) := by
  refine fn_of c80 rfl (by simp only [Env.of, List.zipIdx, List.map]; rfl) ?_
  repeat' (first | refine dr ?_ | (refine ds ?_ ?_ <;> intro hb) | ((with_reducible refine dbm ?_); first | exact db_nil | refine dbc ?_ ?_) | ((with_reducible refine natle ?_); first | assumption | omega | (simp; omega)))
  exact ⟨rfl, rfl⟩

/-! ### All lines -/
def tokOf (l : Int) (p : Pc) : Tok := ⟨p.k, p.s, l, 1 + p.a⟩
def errOf (ps : List Pc) : Option Pc := ps.find? fun p => p.e != 0
def keptOf (want : Int → Bool) (l : Int) (ps : List Pc) : List Tok := (ps.filter fun p => want p.k).map (tokOf l)
/-- The tokens that are wanted, or the first error: its place and what it is. -/
def readM (want : Int → Bool) : Int → List (List UInt8) → List Tok → List Tok × Int × Int × Int
  | _, [], acc => (acc, 0, 0, 0)
  | l, s :: ls, acc => match errOf (scanM s) with
    | some p => ([], l, 1 + p.a, p.e)
    | none => readM want (l + 1) ls (acc ++ keptOf want l (scanM s))
def readP (r : List Tok × Int × Int × Int) : PV := .tup [.d (.slice (toksD r.1)), .agg [.int .i64 r.2.1, .int .i64 r.2.2.1], .d (.int .i64 r.2.2.2)]

theorem pieceM_len (i : Int) (b : UInt8) (r : List UInt8) : (pieceM i b r).2 ≤ (b :: r).length := by
  unfold pieceM
  split
  · split <;> exact Nat.le_refl _
  · split
    · exact (List.takeWhile_sublist _).length_le
    · exact signM_le _
theorem pieceM_at (i : Int) (b : UInt8) (r : List UInt8) : i ≤ (pieceM i b r).1.a ∧ (pieceM i b r).1.a ≤ i + (b :: r).length := by
  have := badIdx_lt (b :: r)
  unfold pieceM
  split
  · split
    · simp only; omega
    · simp only; omega
  · split <;> simp only <;> omega
theorem scanF_len : ∀ (f i : Nat) (s : List UInt8), (scanF f i s).length ≤ f
  | 0, _, _ => by simp [scanF]
  | _ + 1, _, [] => by simp [scanF]
  | f + 1, i, b :: r => by
    unfold scanF
    split
    · exact Nat.le_succ_of_le (scanF_len f _ _)
    · simp only [List.length_cons]
      refine Nat.succ_le_succ ?_
      split
      · simp
      · exact scanF_len f _ _
theorem scanM_len (s : List UInt8) : (scanM s).length ≤ s.length := scanF_len _ _ _
theorem scanF_at : ∀ (f i : Nat) (s : List UInt8), ∀ p ∈ scanF f i s, (i : Int) ≤ p.a ∧ p.a ≤ (i : Int) + s.length
  | 0, _, _ => by simp [scanF]
  | _ + 1, _, [] => by simp [scanF]
  | f + 1, i, b :: r => by
    intro p hp
    unfold scanF at hp
    split at hp
    · have := scanF_at f (i + 1) r p hp
      simp only [List.length_cons]
      push_cast at *
      omega
    · rcases List.mem_cons.1 hp with rfl | hp
      · exact pieceM_at _ _ _
      · split at hp
        · cases hp
        · have h1 := scanF_at f _ _ p hp
          have h2 := pieceM_len i b r
          rw [List.length_drop] at h1
          push_cast at *
          omega
theorem scanM_at {s : List UInt8} {p : Pc} (h : p ∈ scanM s) : 0 ≤ p.a ∧ p.a ≤ s.length := by
  have := scanF_at _ _ _ p h
  omega
theorem keptOf_len (want : Int → Bool) (l : Int) (ps : List Pc) : (keptOf want l ps).length ≤ ps.length := by
  simp only [keptOf, List.length_map]
  exact List.length_filter_le _ _
theorem keptOf_snoc (want : Int → Bool) (l : Int) (ps : List Pc) (p : Pc) : keptOf want l (ps ++ [p]) = keptOf want l ps ++ if want p.k then [tokOf l p] else [] := by
  simp only [keptOf, List.filter_append, List.map_append, List.filter_cons, List.filter_nil]
  split <;> simp
theorem errOf_cons {d : List Pc} (hd : errOf d = none) (p : Pc) (ps : List Pc) (hp : p.e ≠ 0) : errOf (d ++ p :: ps) = some p := by
  simp only [errOf, List.find?_append] at *
  simp [hd, List.find?_cons, hp]
theorem errOf_snoc {d : List Pc} (hd : errOf d = none) (p : Pc) (hp : p.e = 0) : errOf (d ++ [p]) = none := by
  simp only [errOf, List.find?_append] at *
  simp [hd, List.find?_cons, hp]

theorem f_read {wf : FuncId} {want : Int → Bool} (hw : ∀ k : Int, F Γd wf [.d (.int .i64 k)] (.d (.bool (want k)))) (lines : List (List UInt8)) (first : Int) (h1 : 0 ≤ first ∧ first ≤ 1000000) (hs : (lines.map List.length).sum ≤ 100000000) (hl : lines.length ≤ 100000000) :
    F Γd 48 [.d (.slice (strsD lines)), .d (.int .i64 first), .fn wf [] []] (readP (readM want first lines [])) := by
  refine fn_of c48 rfl (by simp only [Env.of, List.zipIdx, List.map]; rfl) ?_
  have hln := strsD_length lines
  have hl2 : (strsD lines).length ≤ 4294967296 := by omega
  repeat' (first | refine dr ?_ | (refine ds ?_ ?_ <;> intro hb) | ((with_reducible refine dbm ?_); first | exact db_nil | refine dbc ?_ ?_) | ((with_reducible refine natle ?_); first | assumption | omega | (simp; omega)))
  refine LP_for lines (fun i (acc : List Tok) => [(4, .ptr 0 0), (5, .ptr 1 0), (6, .ptr 2 0), (7, .ptr 3 0), (8, .ptr 4 0), (9, .ptr 5 0), (13, .d (.slice (strsD lines))), (14, .d (.int .i64 lines.length)), (15, .d (.int .i64 i))])
    (fun i acc => [.box 3 [.d (.int .i64 first)], .box 97 [.fn wf [] []], .box 52 [.snil], .box 23 [.d (.int .i64 0), .d (.int .i64 0)], .box 29 [.d (.int .i64 0)], .box 52 [.lref 6 acc.length], .lst (57, 4) (toksD acc)])
    (fun i acc => readM want (first + i) (lines.drop i) acc = readM want first lines [] ∧ acc.length ≤ ((lines.take i).map List.length).sum) [] ?_ rfl ⟨by simp, by simp⟩ ?_ ?_
  · (first | (simp [Env.shr, Env.get, PV.exp, PV.ids, PV.ids.idsL]; done) | simp [Env.shr, Env.get, PV.exp, PV.ids, PV.ids.idsL, *])
  · rintro i x acc hx hi ⟨hI, hacc⟩ ih
    have hxs : (strsD lines)[i]? = some [.str x] := strsD_at hx
    have hdr : lines.drop i = x :: lines.drop (i + 1) := by
      rw [List.drop_eq_getElem_cons hi]
      congr 1
      have := List.getElem?_eq_getElem hi
      rw [hx] at this
      exact (Option.some.inj this).symm
    rw [hdr] at hI
    have hsum : ((lines.take (i + 1)).map List.length).sum = ((lines.take i).map List.length).sum + x.length := by
      rw [List.take_add_one, hx]
      simp
    have hle : ((lines.take (i + 1)).map List.length).sum ≤ (lines.map List.length).sum := by
      conv => rhs; rw [← List.take_append_drop (i + 1) lines]
      rw [List.map_append, List.sum_append]
      omega
    have hxl : x.length ≤ 4294967296 := by omega
    have hxsc := scanM_len x
    have hpc := f_pieces x
    simp only [readM] at hI
    repeat' (first | (refine orf (it_pieces x hxl) ?_) | ((with_reducible refine wcm ?_); first | refine cF (hpc) ?_) | refine dr ?_ | (refine ds ?_ ?_ <;> intro hb) | ((with_reducible refine dbm ?_); first | exact db_nil | refine dbc ?_ ?_) | ((with_reducible refine natle ?_); first | assumption | omega | (simp; omega)))
    refine rfK_ind (β := Pc) Pc.row (fun (ac : List Tok) => [.box 3 [.d (.int .i64 first)], .box 97 [.fn wf [] []], .box 52 [.snil], .box 23 [.d (.int .i64 0), .d (.int .i64 0)], .box 29 [.d (.int .i64 0)], .box 52 [.lref 6 ac.length], .lst (57, 4) (toksD ac), .box 3 [.d (.int .i64 i)]])
      (fun ps ac => ∃ done, scanM x = done ++ ps ∧ ac = acc ++ keptOf want (first + i) done ∧ errOf done = none) (scanM x) acc rfl ⟨[], by simp, by simp [keptOf], rfl⟩ ?_ ?_
    · rintro ac ⟨done, hd1, rfl, hd2⟩
      rw [List.append_nil] at hd1
      rw [← hd1] at hd2
      rw [hd2] at hI
      simp only at hI
      rw [hd1] at hI
      have hkl := keptOf_len want (first + i) done
      rw [hd1] at hxsc
      have hlt : ((i : Int)) < lines.length := by omega
      repeat' (first | refine dr ?_ | (refine ds ?_ ?_ <;> intro hb) | ((with_reducible refine dbm ?_); first | exact db_nil | refine dbc ?_ ?_) | ((with_reducible refine natle ?_); first | assumption | omega | (simp; omega)))
      refine LP_at ?_ rfl (ih (acc ++ keptOf want (first + i) done) ⟨?_, ?_⟩)
      · (first | (simp [Env.shr, Env.get, PV.exp, PV.ids, PV.ids.idsL]; done) | simp [Env.shr, Env.get, PV.exp, PV.ids, PV.ids.idsL, *])
      · rw [← hI, Int.natCast_add, Int.natCast_one, Int.add_assoc]
      · rw [List.length_append]; omega
    · rintro p ps ac ⟨done, hd1, hd3, hd2⟩ Nx hNx
      have hpm : p ∈ scanM x := by rw [hd1]; simp
      obtain ⟨hpa1, hpa2⟩ := scanM_at hpm
      have hac : ac.length ≤ 100000000 := by
        have := keptOf_len want (first + i) done
        rw [hd1] at hxsc
        simp only [List.length_append, List.length_cons] at hxsc
        rw [hd3, List.length_append]
        omega
      have hlt : ((i : Int)) < lines.length := by omega
      have hall := toksD_len ac
      have hlen := toksD_length ac
      clear hln hl2 hle hsum hdr hacc
      by_cases he : p.e = 0
      · have hres : ∀ t, t = (if want p.k then [tokOf (first + i) p] else []) → ∃ done, scanM x = done ++ ps ∧ ac ++ t = acc ++ keptOf want (first + i) done ∧ errOf done = none := fun t ht =>
          ⟨done ++ [p], by rw [hd1]; simp, by rw [keptOf_snoc, hd3, ht, List.append_assoc], errOf_snoc hd2 p he⟩
        clear hd1 hd3 hI ih
        have hwp := hw p.k
        cases hwk : want p.k with
        | true =>
          rw [hwk] at hwp hres
          repeat' (first | ((with_reducible refine wcm ?_); first | refine cF (hwp) ?_) | refine dr ?_ | (refine ds ?_ ?_ <;> intro hb) | ((with_reducible refine dbm ?_); first | exact db_nil | refine dbc ?_ ?_) | ((with_reducible refine natle ?_); first | assumption | omega | (simp; omega)))
          refine hNx (ac ++ [tokOf (first + i) p]) _ (hres _ rfl) ?_
          simp [shrink, Ent.exp, PV.exp, PV.ids, PV.ids.idsL, toksD, Tok.row, tokOf]
        | false =>
          rw [hwk] at hwp hres
          repeat' (first | ((with_reducible refine wcm ?_); first | refine cF (hwp) ?_) | refine dr ?_ | (refine ds ?_ ?_ <;> intro hb) | ((with_reducible refine dbm ?_); first | exact db_nil | refine dbc ?_ ?_) | ((with_reducible refine natle ?_); first | assumption | omega | (simp; omega)))
          refine hNx ac _ (by simpa using hres [] rfl) ?_
          simp [shrink, Ent.exp, PV.exp, PV.ids, PV.ids.idsL]
      · rw [hd1, errOf_cons hd2 p ps he] at hI
        simp only at hI
        rw [← hI]
        clear hd1 hd3 hI ih
        repeat' (first | (refine rk_ret ?_) | refine dr ?_ | (refine ds ?_ ?_ <;> intro hb) | ((with_reducible refine dbm ?_); first | exact db_nil | refine dbc ?_ ?_) | ((with_reducible refine natle ?_); first | assumption | omega | (simp; omega)))
        all_goals simp [readP, toksD]
  · rintro acc ⟨hI, hacc⟩
    rw [List.drop_length] at hI
    simp only [readM] at hI
    rw [← hI]
    repeat' (first | refine dr ?_ | (refine ds ?_ ?_ <;> intro hb) | ((with_reducible refine dbm ?_); first | exact db_nil | refine dbc ?_ ?_) | ((with_reducible refine natle ?_); first | assumption | omega | (simp; omega)))
    have ht : (toksD acc).take acc.length = toksD acc := List.take_of_length_le (by rw [toksD_length]; exact Nat.le_refl _)
    simp [readP, ht]
end Go.Plane
end
section
set_option linter.unusedVariables false
set_option linter.unusedSimpArgs false
set_option maxRecDepth 100000
set_option maxHeartbeats 1000000
namespace Go.Plane
open Go Go.Proofs
theorem splitL_sum (c : UInt8) : ∀ s : List UInt8, ((splitL c s).map List.length).sum ≤ s.length
  | [] => by simp [splitL]
  | b :: s => by
    have ih := splitL_sum c s
    simp only [splitL]
    split
    · simp; omega
    · split
      · rename_i h; rw [h] at ih; simp at ih ⊢; omega
      · simp
def isTok (k : Int) : Bool := k != 6
def isNote (k : Int) : Bool := k == 6
def tokensM (s : List UInt8) : List Tok × Int × Int × Int :=
  if 20000 < s.length then ([], 0, 0, 3)
  else if (readM isTok 1 (splitL 10 s) []).2.2.2 = 0 ∧ 6000 < (readM isTok 1 (splitL 10 s) []).1.length then ([], 0, 0, 3)
  else readM isTok 1 (splitL 10 s) []
theorem f_Tokens (s : List UInt8) (hs : s.length ≤ 4294967296) : F Γd 22 [.d (.str s)] (readP (tokensM s)) := by
  refine fn_of c22 rfl (by simp only [Env.of, List.zipIdx, List.map]; rfl) ?_
  by_cases hl : 20000 < s.length
  · have h : tokensM s = ([], 0, 0, 3) := by unfold tokensM; rw [if_pos hl]
    rw [h]
    repeat' (first | refine dr ?_ | (refine ds ?_ ?_ <;> intro hb) | ((with_reducible refine dbm ?_); first | exact db_nil | refine dbc ?_ ?_) | ((with_reducible refine natle ?_); first | assumption | omega | (simp; omega)))
    all_goals (simp [readP, toksD]; done)
  · have hsp := F_Split s 10 (by omega)
    have hsum := splitL_sum 10 s
    have hcnt : s.count 10 ≤ s.length := List.count_le_length
    have hlen := splitL_length 10 s
    have hrd := f_read (want := isTok) (fun k => f_token k) (splitL 10 s) 1 (by omega) (by omega) (by omega)
    have h : tokensM s = if (readM isTok 1 (splitL 10 s) []).2.2.2 = 0 ∧ 6000 < (readM isTok 1 (splitL 10 s) []).1.length then ([], 0, 0, 3) else readM isTok 1 (splitL 10 s) [] := by unfold tokensM; rw [if_neg hl]
    rw [h]
    generalize readM isTok 1 (splitL 10 s) [] = r at *
    have htl := toksD_length r.1
    clear h hsum hcnt hlen
    by_cases hc : r.2.2.2 = 0 ∧ 6000 < r.1.length
    · rw [if_pos hc]
      obtain ⟨hc1, hc2⟩ := hc
      repeat' (first | ((with_reducible refine wcm ?_); first | refine cF (hsp) ?_ | refine cF (hrd) ?_) | refine dr ?_ | (refine ds ?_ ?_ <;> intro hb) | ((with_reducible refine dbm ?_); first | exact db_nil | refine dbc ?_ ?_) | ((with_reducible refine natle ?_); first | assumption | omega | (simp; omega)))
      all_goals (simp [readP, toksD]; done)
    · rw [if_neg hc]
      repeat' (first | ((with_reducible refine wcm ?_); first | refine cF (hsp) ?_ | refine cF (hrd) ?_) | refine dr ?_ | (refine ds ?_ ?_ <;> intro hb) | ((with_reducible refine dbm ?_); first | exact db_nil | refine dbc ?_ ?_) | ((with_reducible refine natle ?_); first | assumption | omega | (simp; omega)))
      all_goals first | (exfalso; exact hc ⟨by omega, by omega⟩) | (simp [readP, toksD, *]; done)
/-- The comments, or the error. -/
def notesM (s : List UInt8) : List Tok × Int := if (tokensM s).2.2.2 ≠ 0 then ([], (tokensM s).2.2.2) else ((readM isNote 1 (splitL 10 s) []).1, 0)
theorem f_Comments (s : List UInt8) (hs : s.length ≤ 4294967296) : F Γd 31 [.d (.str s)] (.tup [.d (.slice (toksD (notesM s).1)), .d (.int .i64 (notesM s).2)]) := by
  refine fn_of c31 rfl (by simp only [Env.of, List.zipIdx, List.map]; rfl) ?_
  have htk := f_Tokens s hs
  by_cases he : (tokensM s).2.2.2 = 0
  · have hl : ¬20000 < s.length := by
      intro h
      unfold tokensM at he
      rw [if_pos h] at he
      simp at he
    have hsp := F_Split s 10 (by omega)
    have hsum := splitL_sum 10 s
    have hcnt : s.count 10 ≤ s.length := List.count_le_length
    have hlen := splitL_length 10 s
    have hrd := f_read (want := isNote) (fun k => f_note k) (splitL 10 s) 1 (by omega) (by omega) (by omega)
    have h : notesM s = ((readM isNote 1 (splitL 10 s) []).1, 0) := by unfold notesM; rw [if_neg (by simp [he])]
    rw [h]
    generalize tokensM s = t at *
    generalize readM isNote 1 (splitL 10 s) [] = r at *
    clear h hsum hcnt hlen
    repeat' (first | ((with_reducible refine wcm ?_); first | refine cF (htk) ?_ | refine cF (hsp) ?_ | refine cF (hrd) ?_) | refine dr ?_ | (refine ds ?_ ?_ <;> intro hb) | ((with_reducible refine dbm ?_); first | exact db_nil | refine dbc ?_ ?_) | ((with_reducible refine natle ?_); first | assumption | omega | (simp; omega)))
    all_goals (simp [toksD]; done)
  · have h : notesM s = ([], (tokensM s).2.2.2) := by unfold notesM; rw [if_pos he]
    rw [h]
    generalize tokensM s = t at *
    repeat' (first | ((with_reducible refine wcm ?_); first | refine cF (htk) ?_) | refine dr ?_ | (refine ds ?_ ?_ <;> intro hb) | ((with_reducible refine dbm ?_); first | exact db_nil | refine dbc ?_ ?_) | ((with_reducible refine natle ?_); first | assumption | omega | (simp; omega)))
    all_goals (simp [toksD]; done)
end Go.Plane
end
section
set_option linter.unusedVariables false
set_option linter.unusedSimpArgs false
set_option maxRecDepth 100000
set_option maxHeartbeats 2000000
namespace Go.Plane
open Go Go.Proofs
theorem sameTok_kt (a b : Tok) : sameTokM a b = decide (a.kt = b.kt) := by
  unfold sameTokM Tok.kt
  rw [Bool.eq_iff_iff]
  simp
theorem f_EqualFunc (a b : List Tok) (ha : a.length ≤ 4294967296) (hb : b.length ≤ 4294967296) : F Γd 71 [.d (.slice (toksD a)), .d (.slice (toksD b)), .fn 72 [] []] (.d (.bool (sameK a b))) := by
  refine fn_of c71 rfl (by simp only [Env.of, List.zipIdx, List.map]; rfl) ?_
  have l1 := toksD_length a
  have l2 := toksD_length b
  by_cases hl : a.length = b.length
  case neg =>
    have hm := sameK_len hl
    repeat' (first | refine dr ?_ | (refine ds ?_ ?_ <;> intro hb) | ((with_reducible refine dbm ?_); first | exact db_nil | refine dbc ?_ ?_) | ((with_reducible refine natle ?_); first | assumption | omega | (simp; omega)))
    rw [hm]
    exact ⟨rfl, rfl⟩
  have hl' : (a.length : Int) = b.length := by omega
  repeat' (first | refine dr ?_ | (refine ds ?_ ?_ <;> intro hb) | ((with_reducible refine dbm ?_); first | exact db_nil | refine dbc ?_ ?_) | ((with_reducible refine natle ?_); first | assumption | omega | (simp; omega)))
  refine LP_for a (fun i _ => [(1, .d (.slice (toksD b))), (2, .fn 72 [] []), (15, .d (.slice (toksD a))), (16, .d (.int .i64 a.length)), (17, .d (.int .i64 i))]) (fun _ _ => []) (fun i (_ : Unit) => (a.take i).map Tok.kt = (b.take i).map Tok.kt) () ?_ rfl (by simp) ?_ ?_
  · (first | (simp [Env.shr, Env.get, PV.exp, PV.ids, PV.ids.idsL]; done) | simp [Env.shr, Env.get, PV.exp, PV.ids, PV.ids.idsL, *])
  · rintro i x _ hi hlt hI ih
    have hy := List.getElem?_eq_getElem (show i < b.length by omega)
    generalize b[i] = y at hy
    have r1 := toksD_at hi
    have r2 := toksD_at hy
    clear hl
    have heq := f_equal x y
    cases he : sameTokM x y with
    | true =>
      rw [he] at heq
      have hkt : x.kt = y.kt := by rw [sameTok_kt] at he; exact of_decide_eq_true he
      repeat' (first | ((with_reducible refine wcm ?_); first | refine cF (heq) ?_) | refine dr ?_ | (refine ds ?_ ?_ <;> intro hb) | ((with_reducible refine dbm ?_); first | exact db_nil | refine dbc ?_ ?_) | ((with_reducible refine natle ?_); first | assumption | omega | (simp; omega)))
      refine LP_at ?_ rfl (ih () (map_take_succ Tok.kt hi hy hI hkt))
      (first | (simp [Env.shr, Env.get, PV.exp, PV.ids, PV.ids.idsL]; done) | simp [Env.shr, Env.get, PV.exp, PV.ids, PV.ids.idsL, *])
    | false =>
      rw [he] at heq
      have hkt : x.kt ≠ y.kt := by rw [sameTok_kt] at he; exact of_decide_eq_false he
      have : sameK a b = false := decide_eq_false (map_ne Tok.kt hi hy hkt)
      repeat' (first | ((with_reducible refine wcm ?_); first | refine cF (heq) ?_) | refine dr ?_ | (refine ds ?_ ?_ <;> intro hb) | ((with_reducible refine dbm ?_); first | exact db_nil | refine dbc ?_ ?_) | ((with_reducible refine natle ?_); first | assumption | omega | (simp; omega)))
      simp [this]
  · rintro _ hI
    have : sameK a b = true := decide_eq_true (list_ext_take Tok.kt hl (Nat.le_refl _) hI)
    repeat' (first | refine dr ?_ | (refine ds ?_ ?_ <;> intro hb) | ((with_reducible refine dbm ?_); first | exact db_nil | refine dbc ?_ ?_) | ((with_reducible refine natle ?_); first | assumption | omega | (simp; omega)))
    simp [this]

theorem f_joined (ls : List (List Tok)) (hl : ls.length ≤ 1000000) (ht : ls.flatten.length ≤ 1000000) : F Γd 52 [.d (.slice (ls.map fun l => [.slice (toksD l)]))] (.d (.slice (toksD ls.flatten))) := by
  refine fn_of c52 rfl (by simp only [Env.of, List.zipIdx, List.map]; rfl) ?_
  have l1 : (ls.map fun l => [D.slice (toksD l)]).length = ls.length := by simp
  repeat' (first | refine dr ?_ | (refine ds ?_ ?_ <;> intro hb) | ((with_reducible refine dbm ?_); first | exact db_nil | refine dbc ?_ ?_) | ((with_reducible refine natle ?_); first | assumption | omega | (simp; omega)))
  refine LP_for ls (fun i (acc : List Tok) => [(3, .lref 0 acc.length), (6, .d (.slice (ls.map fun l => [.slice (toksD l)]))), (7, .d (.int .i64 ls.length)), (8, .d (.int .i64 i))]) (fun i acc => [.lst (57, 4) (toksD acc)]) (fun i acc => acc = (ls.take i).flatten) [] ?_ rfl (by simp) ?_ ?_
  · (first | (simp [Env.shr, Env.get, PV.exp, PV.ids, PV.ids.idsL]; done) | simp [Env.shr, Env.get, PV.exp, PV.ids, PV.ids.idsL, *])
  · rintro i x acc hi hlt rfl ih
    have r1 : (ls.map fun l => [D.slice (toksD l)])[i]? = some [.slice (toksD x)] := by rw [List.getElem?_map, hi]; rfl
    have hn : (ls.take (i + 1)).flatten = (ls.take i).flatten ++ x := by rw [List.take_add_one, hi]; simp
    have hb : (ls.take (i + 1)).flatten.length ≤ ls.flatten.length := by
      conv => rhs; rw [← List.take_append_drop (i + 1) ls]
      rw [List.flatten_append, List.length_append]
      omega
    rw [hn, List.length_append] at hb
    have e1 := toksD_len x
    have e2 := toksD_len (ls.take i).flatten
    have e3 := toksD_length x
    have e4 := toksD_length (ls.take i).flatten
    generalize (ls.take i).flatten = acc at *
    repeat' (first | refine dr ?_ | (refine ds ?_ ?_ <;> intro hb) | ((with_reducible refine dbm ?_); first | exact db_nil | refine dbc ?_ ?_) | ((with_reducible refine natle ?_); first | assumption | omega | (simp; omega)))
    refine LP_at ?_ ?_ (ih (acc ++ x) hn.symm)
    · (first | (simp [Env.shr, Env.get, PV.exp, PV.ids, PV.ids.idsL]; done) | simp [Env.shr, Env.get, PV.exp, PV.ids, PV.ids.idsL, *])
    · simp [toksD_append, shrink, Ent.exp]
  · rintro acc rfl
    rw [List.take_length]
    have ht2 : (toksD ls.flatten).take ls.flatten.length = toksD ls.flatten := List.take_of_length_le (by rw [toksD_length]; exact Nat.le_refl _)
    repeat' (first | refine dr ?_ | (refine ds ?_ ?_ <;> intro hb) | ((with_reducible refine dbm ?_); first | exact db_nil | refine dbc ?_ ?_) | ((with_reducible refine natle ?_); first | assumption | omega | (simp; omega)))
    simp [ht2]

def rightM (t : Tok) : Bool := decide ((shapeM t.s).2 = 0 ∧ (shapeM t.s).1 = t.k ∧ t.k ≠ 6)
theorem f_right (t : Tok) (hs : t.s.length ≤ 4294967296) : F Γd 86 [.agg t.row] (.d (.bool (rightM t))) := by
  refine fn_of c86 rfl (by simp only [Env.of, List.zipIdx, List.map]; rfl) ?_
  have hsh := f_Shape t.s hs
  have h6 : (t.k != 6) = !decide (t.k = 6) := by rw [Bool.eq_iff_iff]; simp
  repeat' (first | ((with_reducible refine wcm ?_); first | refine cF (hsh) ?_) | refine dr ?_ | (refine ds ?_ ?_ <;> intro hb) | ((with_reducible refine dbm ?_); first | exact db_nil | refine dbc ?_ ?_) | ((with_reducible refine natle ?_); first | assumption | omega | (simp; omega)))
  all_goals first | (simp [rightM, *]; done) | (simp [rightM, h6, *]; done)
theorem f_write1 (t : Tok) (hs : t.s.length ≤ 4294967296) : F Γd 85 [.agg t.row] (.d (.bool (!rightM t))) := by
  refine fn_of c85 rfl (by simp only [Env.of, List.zipIdx, List.map]; rfl) ?_
  have hr := f_right t hs
  repeat' (first | ((with_reducible refine wcm ?_); first | refine cF (hr) ?_) | refine dr ?_ | (refine ds ?_ ?_ <;> intro hb) | ((with_reducible refine dbm ?_); first | exact db_nil | refine dbc ?_ ?_) | ((with_reducible refine natle ?_); first | assumption | omega | (simp; omega)))
  all_goals (simp [*]; done)
def needsM (a b : Tok) : Bool := decide ((readM isTok 1 [a.s ++ b.s] []).2.2.2 ≠ 0) || !sameK (readM isTok 1 [a.s ++ b.s] []).1 [a, b]
theorem f_needs (a b : Tok) (hs : a.s.length + b.s.length ≤ 100000000) (hr : (readM isTok 1 [a.s ++ b.s] []).1.length ≤ 4294967296) : F Γd 56 [.agg a.row, .agg b.row] (.d (.bool (needsM a b))) := by
  refine fn_of c56 rfl (by simp only [Env.of, List.zipIdx, List.map]; rfl) ?_
  have hrd := f_read (want := isTok) (fun k => f_token k) [a.s ++ b.s] 1 (by omega) (by simp; omega) (by simp)
  have hj := f_joined [[a], [b]] (by simp) (by simp)
  have heq := f_EqualFunc (readM isTok 1 [a.s ++ b.s] []).1 [a, b] hr (by simp)
  have hN : needsM a b = (decide ((readM isTok 1 [a.s ++ b.s] []).2.2.2 ≠ 0) || !sameK (readM isTok 1 [a.s ++ b.s] []).1 [a, b]) := rfl
  rw [hN]
  clear hN
  generalize readM isTok 1 [a.s ++ b.s] [] = r at *
  simp only [strsD, List.map, List.flatten, List.append_nil, List.cons_append, List.nil_append, toksD] at hrd hj heq
  by_cases he : r.2.2.2 = 0
  · repeat' (first | ((with_reducible refine wcm ?_); first | refine cF (hrd) ?_ | refine cF (hj) ?_ | refine cF (heq) ?_) | refine dr ?_ | (refine ds ?_ ?_ <;> intro hb) | ((with_reducible refine dbm ?_); first | exact db_nil | refine dbc ?_ ?_) | ((with_reducible refine natle ?_); first | assumption | omega | (simp; omega)))
    all_goals (simp [*]; done)
  · repeat' (first | ((with_reducible refine wcm ?_); first | refine cF (hrd) ?_ | refine cF (hj) ?_ | refine cF (heq) ?_) | refine dr ?_ | (refine ds ?_ ?_ <;> intro hb) | ((with_reducible refine dbm ?_); first | exact db_nil | refine dbc ?_ ?_) | ((with_reducible refine natle ?_); first | assumption | omega | (simp; omega)))
    all_goals (simp [*]; done)
end Go.Plane
end
section
set_option linter.unusedVariables false
set_option linter.unusedSimpArgs false
set_option maxRecDepth 100000
set_option maxHeartbeats 2000000
namespace Go.Plane
open Go Go.Proofs
def idxT (p : Tok → Bool) (l : List Tok) : Int := match l.findIdx? p with
  | some i => i
  | none => -1
theorem idxT_at {p : Tok → Bool} {l : List Tok} {i : Nat} {x : Tok} (hx : l[i]? = some x) (hp : p x = true) (hn : ∀ t ∈ l.take i, p t = false) : idxT p l = i := by
  have : l.findIdx? p = some i := by
    have hi := (List.getElem?_eq_some_iff.1 hx).1
    rw [List.findIdx?_eq_some_iff_getElem]
    refine ⟨hi, ?_, fun j hj => ?_⟩
    · rw [List.getElem?_eq_getElem hi] at hx; cases hx; exact hp
    · rw [hn _ (by rw [List.mem_take_iff_getElem]; exact ⟨j, by omega, rfl⟩)]; simp
  unfold idxT
  rw [this]
theorem idxT_none {p : Tok → Bool} {l : List Tok} (hn : ∀ t ∈ l, p t = false) : idxT p l = -1 := by
  have : l.findIdx? p = none := List.findIdx?_eq_none_iff.2 hn
  unfold idxT
  rw [this]
theorem idxT_any (p : Tok → Bool) (l : List Tok) : decide (0 ≤ idxT p l) = l.any p := by
  unfold idxT
  cases h : l.findIdx? p with
  | none =>
    have := List.findIdx?_eq_none_iff.1 h
    rw [show l.any p = false by rw [List.any_eq_false]; intro x hx; rw [this x hx]; simp]
    rfl
  | some i =>
    obtain ⟨h1, h2, _⟩ := List.findIdx?_eq_some_iff_getElem.1 h
    rw [show l.any p = true by rw [List.any_eq_true]; exact ⟨_, List.getElem_mem h1, h2⟩]
    simp
theorem f_IndexFuncT {wf : FuncId} {p : Tok → Bool} (l : List Tok) (hl : l.length ≤ 4294967296) (hp : ∀ t ∈ l, F Γd wf [.agg t.row] (.d (.bool (p t)))) :
    F Γd 115 [.d (.slice (toksD l)), .fn wf [] []] (.d (.int .i64 (idxT p l))) := by
  refine fn_of c115 rfl (by simp only [Env.of, List.zipIdx, List.map]; rfl) ?_
  have hln := toksD_length l
  repeat' (first | refine dr ?_ | (refine ds ?_ ?_ <;> intro hb) | ((with_reducible refine dbm ?_); first | exact db_nil | refine dbc ?_ ?_) | ((with_reducible refine natle ?_); first | assumption | omega | (simp; omega)))
  refine LP_for l (fun i _ => [(0, .d (.slice (toksD l))), (1, .fn wf [] []), (7, .d (.int .i64 l.length)), (8, .d (.int .i64 i))]) (fun _ _ => []) (fun i (_ : Unit) => ∀ t ∈ l.take i, p t = false) () ?_ rfl (by simp) ?_ ?_
  · (first | (simp [Env.shr, Env.get, PV.exp, PV.ids, PV.ids.idsL]; done) | simp [Env.shr, Env.get, PV.exp, PV.ids, PV.ids.idsL, *])
  · rintro i x _ hx hi hI ih
    have hr := toksD_at hx
    have hpx := hp x (List.mem_of_getElem? hx)
    cases hb : p x with
    | true =>
      rw [hb] at hpx
      have hv := idxT_at hx hb hI
      repeat' (first | ((with_reducible refine wcm ?_); first | refine cF (hpx) ?_) | refine dr ?_ | (refine ds ?_ ?_ <;> intro hb) | ((with_reducible refine dbm ?_); first | exact db_nil | refine dbc ?_ ?_) | ((with_reducible refine natle ?_); first | assumption | omega | (simp; omega)))
      simp [hv]
    | false =>
      rw [hb] at hpx
      repeat' (first | ((with_reducible refine wcm ?_); first | refine cF (hpx) ?_) | refine dr ?_ | (refine ds ?_ ?_ <;> intro hb) | ((with_reducible refine dbm ?_); first | exact db_nil | refine dbc ?_ ?_) | ((with_reducible refine natle ?_); first | assumption | omega | (simp; omega)))
      refine LP_at ?_ rfl (ih () fun t ht => ?_)
      · (first | (simp [Env.shr, Env.get, PV.exp, PV.ids, PV.ids.idsL]; done) | simp [Env.shr, Env.get, PV.exp, PV.ids, PV.ids.idsL, *])
      · rw [List.take_add_one, hx, List.mem_append] at ht
        rcases ht with ht | ht
        · exact hI t ht
        · simp at ht; subst ht; exact hb
  · rintro _ hI
    rw [List.take_length] at hI
    have hv := idxT_none hI
    repeat' (first | refine dr ?_ | (refine ds ?_ ?_ <;> intro hb) | ((with_reducible refine dbm ?_); first | exact db_nil | refine dbc ?_ ?_) | ((with_reducible refine natle ?_); first | assumption | omega | (simp; omega)))
    simp [hv]
theorem f_ContainsFuncT {wf : FuncId} {p : Tok → Bool} (l : List Tok) (hl : l.length ≤ 4294967296) (hp : ∀ t ∈ l, F Γd wf [.agg t.row] (.d (.bool (p t)))) :
    F Γd 84 [.d (.slice (toksD l)), .fn wf [] []] (.d (.bool (l.any p))) := by
  refine fn_of c84 rfl (by simp only [Env.of, List.zipIdx, List.map]; rfl) ?_
  have h := f_IndexFuncT l hl hp
  rw [← idxT_any p l]
  generalize idxT p l = n at *
  repeat' (first | ((with_reducible refine wcm ?_); first | refine cF (h) ?_) | refine dr ?_ | (refine ds ?_ ?_ <;> intro hb) | ((with_reducible refine dbm ?_); first | exact db_nil | refine dbc ?_ ?_) | ((with_reducible refine natle ?_); first | assumption | omega | (simp; omega)))
  all_goals (simp [*]; done)
theorem f_Write1 (a b : Tok) : F Γd 55 [.agg a.row, .agg b.row] (.d (.bool true)) := by
  refine fn_of c55 rfl (by simp only [Env.of, List.zipIdx, List.map]; rfl) ?_
  repeat' (first | refine dr ?_ | (refine ds ?_ ?_ <;> intro hb) | ((with_reducible refine dbm ?_); first | exact db_nil | refine dbc ?_ ?_) | ((with_reducible refine natle ?_); first | assumption | omega | (simp; omega)))
  exact ⟨rfl, rfl⟩

/-! ### Texts of tokens -/
def sepM (bl : Tok → Tok → Bool) : Option Tok → Tok → List UInt8
  | none, _ => []
  | some a, t => if bl a t then [32] else []
def joinTok (bl : Tok → Tok → Bool) : Option Tok → List Tok → List UInt8
  | _, [] => []
  | o, t :: l => sepM bl o t ++ t.s ++ joinTok bl (some t) l
def writeM (bl : Tok → Tok → Bool) (l : List Tok) : List UInt8 × Int :=
  if 6000 < l.length then ([], 3)
  else if l.any (fun t => !rightM t) then ([], 1)
  else if 20000 < (joinTok bl none l).length then ([], 3)
  else (joinTok bl none l, 0)
theorem joinTok_snoc (bl : Tok → Tok → Bool) (x : Tok) : ∀ (l : List Tok) (o : Option Tok), joinTok bl o (l ++ [x]) = joinTok bl o l ++ (sepM bl (l.getLast?.or o) x ++ x.s)
  | [], o => by simp [joinTok]
  | t :: l, o => by
    simp only [List.cons_append, joinTok, joinTok_snoc bl x l (some t)]
    rw [show (t :: l).getLast?.or o = l.getLast?.or (some t) by
      cases l with
      | nil => simp
      | cons y l =>
        simp only [List.getLast?_cons_cons]
        cases h : (y :: l).getLast? with
        | none => simp at h
        | some z => rfl]
    simp [List.append_assoc]
theorem joinTok_len (bl : Tok → Tok → Bool) : ∀ (l : List Tok) (o : Option Tok), (joinTok bl o l).length ≤ (l.map fun t => t.s.length + 1).sum
  | [], _ => by simp [joinTok]
  | t :: l, o => by
    have ih := joinTok_len bl l (some t)
    have : (sepM bl o t).length ≤ 1 := by
      unfold sepM
      split
      · simp
      · split <;> simp
    simp only [joinTok, List.length_append, List.map_cons, List.sum_cons]
    omega
end Go.Plane
end
section
set_option linter.unusedVariables false
set_option linter.unusedSimpArgs false
set_option maxRecDepth 100000
set_option maxHeartbeats 4000000
namespace Go.Plane
open Go Go.Proofs
theorem getLast_take {l : List Tok} {j : Nat} {y : Tok} (h : l[j]? = some y) : (l.take (j + 1)).getLast? = some y := by
  rw [List.take_add_one, h]
  simp
theorem bld_exp0 (l : List UInt8) (c : PV) (hc : c = .nilp ∨ c = .ptr 0 0) (r : Store) : shrink 2 (bld c l ++ r) = bld c l := by
  rcases hc with rfl | rfl <;> simp [bld, shrink, Ent.exp, PV.exp, PV.ids]
def bldAt : Nat → List UInt8 → Store
  | 0, a => bld .nilp a
  | _ + 1, a => bld (.ptr 0 0) a
theorem f_write {wf : FuncId} {bl : Tok → Tok → Bool} (l : List Tok) (hl : l.length ≤ 100000000) (hs : (l.map fun t => t.s.length + 1).sum ≤ 100000000) (hsl : ∀ t ∈ l, t.s.length ≤ 100000000)
    (hw : l.length ≤ 6000 → l.any (fun t => !rightM t) = false → ∀ a ∈ l, ∀ b ∈ l, F Γd wf [.agg a.row, .agg b.row] (.d (.bool (bl a b)))) :
    F Γd 54 [.d (.slice (toksD l)), .fn wf [] []] (.tup [.d (.str (writeM bl l).1), .d (.int .i64 (writeM bl l).2)]) := by
  refine fn_of c54 rfl (by simp only [Env.of, List.zipIdx, List.map]; rfl) ?_
  have hln := toksD_length l
  by_cases h6 : 6000 < l.length
  · have h : writeM bl l = ([], 3) := by unfold writeM; rw [if_pos h6]
    rw [h]
    repeat' (first | refine dr ?_ | (refine ds ?_ ?_ <;> intro hb) | ((with_reducible refine dbm ?_); first | exact db_nil | refine dbc ?_ ?_) | ((with_reducible refine natle ?_); first | assumption | omega | (simp; omega)))
    exact ⟨rfl, rfl⟩
  have hc := f_ContainsFuncT (p := fun t => !rightM t) l (by omega) (fun t ht => f_write1 t (by have := hsl t ht; omega))
  cases hany : l.any (fun t => !rightM t) with
  | true =>
    have h : writeM bl l = ([], 1) := by unfold writeM; rw [if_neg h6, if_pos hany]
    rw [h]
    rw [hany] at hc
    repeat' (first | ((with_reducible refine wcm ?_); first | refine cF (hc) ?_) | refine dr ?_ | (refine ds ?_ ?_ <;> intro hb) | ((with_reducible refine dbm ?_); first | exact db_nil | refine dbc ?_ ?_) | ((with_reducible refine natle ?_); first | assumption | omega | (simp; omega)))
    exact ⟨rfl, rfl⟩
  | false =>
    have hw := hw (by omega) hany
    have h : writeM bl l = if 20000 < (joinTok bl none l).length then ([], 3) else (joinTok bl none l, 0) := by unfold writeM; rw [if_neg h6, if_neg (by rw [hany]; simp)]
    rw [h]
    rw [hany] at hc
    have hjl := joinTok_len bl l none
    repeat' (first | ((with_reducible refine wcm ?_); first | refine cF (hc) ?_) | refine dr ?_ | (refine ds ?_ ?_ <;> intro hb) | ((with_reducible refine dbm ?_); first | exact db_nil | refine dbc ?_ ?_) | ((with_reducible refine natle ?_); first | assumption | omega | (simp; omega)))
    refine LP_for l (fun i _ => [(0, .d (.slice (toksD l))), (1, .fn wf [] []), (6, .ptr 0 0), (14, .d (.slice (toksD l))), (15, .d (.int .i64 l.length)), (16, .d (.int .i64 i))])
      bldAt (fun i a => a = joinTok bl none (l.take i)) [] ?_ rfl rfl ?_ ?_
    · (first | (simp [Env.shr, Env.get, PV.exp, PV.ids, PV.ids.idsL]; done) | simp [Env.shr, Env.get, PV.exp, PV.ids, PV.ids.idsL, *])
    · rintro i x a hx hi rfl ih
      have hrx := toksD_at hx
      have hbd : (joinTok bl none (l.take i ++ [x])).length ≤ 100000000 := by
        have h1 := joinTok_len bl (l.take i ++ [x]) none
        have h2 : ((l.take i ++ [x]).map fun t => t.s.length + 1).sum ≤ (l.map fun t => t.s.length + 1).sum := by
          conv => rhs; rw [← List.take_append_drop (i + 1) l]
          rw [List.take_add_one, hx]
          simp only [List.map_append, List.sum_append, Option.toList, List.map_cons, List.map_nil]
          omega
        omega
      have htk : l.take (i + 1) = l.take i ++ [x] := by rw [List.take_add_one, hx]; rfl
      rw [joinTok_snoc, List.length_append, List.length_append] at hbd
      cases i with
      | zero =>
        have hws := ft_WS0 [] x.s (by simp; omega)
        simp only [List.take_zero, joinTok]
        simp only [bldAt, bld, List.length_nil, bytesD, List.map_nil, List.nil_append] at hws ⊢
        repeat' (first | ((with_reducible refine wcm ?_); first | refine cT (hws) ?_) | refine dr ?_ | (refine ds ?_ ?_ <;> intro hb) | ((with_reducible refine dbm ?_); first | exact db_nil | refine dbc ?_ ?_) | ((with_reducible refine natle ?_); first | assumption | omega | (simp; omega)))
        refine LP_at ?_ ?_ (ih ([] ++ x.s) ?_)
        · (first | (simp [Env.shr, Env.get, PV.exp, PV.ids, PV.ids.idsL]; done) | simp [Env.shr, Env.get, PV.exp, PV.ids, PV.ids.idsL, *])
        · simp [bldAt, bld, shrink, Ent.exp, PV.exp, PV.ids, bytesD]
        · rw [htk, joinTok_snoc]; simp [sepM, joinTok]
      | succ j =>
        have hj : j < l.length := by omega
        have hy : l[j]? = some l[j] := List.getElem?_eq_getElem hj
        generalize l[j] = y at hy
        have hry0 := toksD_at hy
        have hry : (toksD l)[((((j + 1 : Nat) : Int) - 1).toNat)]? = some [.int .i64 y.k, .str y.s, .int .i64 y.l, .int .i64 y.c] := by rw [show (((j + 1 : Nat) : Int) - 1).toNat = j by omega]; exact hry0
        have hlast := getLast_take hy
        have hblk := hw y (List.mem_of_getElem? hy) x (List.mem_of_getElem? hx)
        rw [hlast] at hbd
        have htk2 : joinTok bl none (l.take (j + 1 + 1)) = joinTok bl none (l.take (j + 1)) ++ (sepM bl (some y) x ++ x.s) := by rw [htk, joinTok_snoc, hlast]; rfl
        simp only [Option.some_or, sepM] at hbd htk2
        generalize joinTok bl none (l.take (j + 1)) = u at *
        cases hbl : bl y x with
        | true =>
          rw [hbl] at hblk hbd htk2
          simp only [if_true, List.length_singleton] at hbd htk2
          have hwb := ft_WB1 u 32 (by omega)
          have hws := ft_WS1 (u ++ [32]) x.s (by simp; omega)
          simp only [bldAt, bld, bytesD_append, List.length_append, List.length_singleton] at hwb hws ⊢
          repeat' (first | ((with_reducible refine wcm ?_); first | refine cF (hblk) ?_ | refine cT (hwb) ?_ | refine cT (hws) ?_) | refine dr ?_ | (refine ds ?_ ?_ <;> intro hb) | ((with_reducible refine dbm ?_); first | exact db_nil | refine dbc ?_ ?_) | ((with_reducible refine natle ?_); first | assumption | omega | (simp; omega)))
          refine LP_at ?_ ?_ (ih (u ++ ([32] ++ x.s)) htk2.symm)
          · (first | (simp [Env.shr, Env.get, PV.exp, PV.ids, PV.ids.idsL]; done) | simp [Env.shr, Env.get, PV.exp, PV.ids, PV.ids.idsL, *])
          · simp [bldAt, bld, shrink, Ent.exp, PV.exp, PV.ids, bytesD] <;> omega
        | false =>
          rw [hbl] at hblk hbd htk2
          simp only [Bool.false_eq_true, if_false, List.nil_append] at hbd htk2
          have hws := ft_WS1 u x.s (by simp at hbd; omega)
          simp only [bldAt, bld, List.length_append, bytesD_append] at hws ⊢
          repeat' (first | ((with_reducible refine wcm ?_); first | refine cF (hblk) ?_ | refine cT (hws) ?_) | refine dr ?_ | (refine ds ?_ ?_ <;> intro hb) | ((with_reducible refine dbm ?_); first | exact db_nil | refine dbc ?_ ?_) | ((with_reducible refine natle ?_); first | assumption | omega | (simp; omega)))
          refine LP_at ?_ ?_ (ih (u ++ x.s) htk2.symm)
          · (first | (simp [Env.shr, Env.get, PV.exp, PV.ids, PV.ids.idsL]; done) | simp [Env.shr, Env.get, PV.exp, PV.ids, PV.ids.idsL, *])
          · simp [bldAt, bld, shrink, Ent.exp, PV.exp, PV.ids, bytesD]
    · rintro a rfl
      rw [List.take_length]
      have hne : (l = [] ∧ joinTok bl none l = []) ∨ ∃ n, l.length = n + 1 := by
        cases l with
        | nil => exact .inl ⟨rfl, rfl⟩
        | cons y m => exact .inr ⟨_, rfl⟩
      rcases hne with ⟨hnil, hj⟩ | ⟨n, hn⟩
      · have hlen := ft_Len .nilp [] (.inl rfl)
        have hst := ft_String .nilp []
        subst hnil
        simp only [bldAt, bld, joinTok, List.length_nil] at hlen hst ⊢
        repeat' (first | ((with_reducible refine wcm ?_); first | refine cT (hlen) ?_ | refine cT (hst) ?_) | refine dr ?_ | (refine ds ?_ ?_ <;> intro hb) | ((with_reducible refine dbm ?_); first | exact db_nil | refine dbc ?_ ?_) | ((with_reducible refine natle ?_); first | assumption | omega | (simp; omega)))
        exact ⟨rfl, rfl⟩
      · rw [show bldAt l.length (joinTok bl none l) = bld (.ptr 0 0) (joinTok bl none l) by rw [hn]; rfl]
        have hlen := ft_Len (.ptr 0 0) (joinTok bl none l) (.inr rfl)
        have hst := ft_String (.ptr 0 0) (joinTok bl none l)
        clear h
        generalize joinTok bl none l = u at *
        simp only [bld] at hlen hst ⊢
        by_cases hu : 20000 < u.length
        · rw [if_pos hu]
          repeat' (first | ((with_reducible refine wcm ?_); first | refine cT (hlen) ?_ | refine cT (hst) ?_) | refine dr ?_ | (refine ds ?_ ?_ <;> intro hb) | ((with_reducible refine dbm ?_); first | exact db_nil | refine dbc ?_ ?_) | ((with_reducible refine natle ?_); first | assumption | omega | (simp; omega)))
          all_goals (simp; done)
        · rw [if_neg hu]
          repeat' (first | ((with_reducible refine wcm ?_); first | refine cT (hlen) ?_ | refine cT (hst) ?_) | refine dr ?_ | (refine ds ?_ ?_ <;> intro hb) | ((with_reducible refine dbm ?_); first | exact db_nil | refine dbc ?_ ?_) | ((with_reducible refine natle ?_); first | assumption | omega | (simp; omega)))
          all_goals (simp; done)
end Go.Plane
end
section
set_option linter.unusedVariables false
set_option linter.unusedSimpArgs false
set_option maxRecDepth 100000
set_option maxHeartbeats 4000000
namespace Go.Plane
open Go Go.Proofs
attribute [local irreducible] wops wio wic wdt wdb onOut
theorem readM_len (want : Int → Bool) : ∀ (ls : List (List UInt8)) (l : Int) (acc : List Tok), (readM want l ls acc).1.length ≤ acc.length + (ls.map List.length).sum
  | [], _, acc => by simp [readM]
  | s :: ls, l, acc => by
    simp only [readM]
    split
    · simp
    · have h1 := readM_len want ls (l + 1) (acc ++ keptOf want l (scanM s))
      have h2 := keptOf_len want l (scanM s)
      have h3 := scanM_len s
      simp only [List.length_append, List.map_cons, List.sum_cons] at *
      omega
def textP (r : List UInt8 × Int) : PV := .tup [.d (.str r.1), .d (.int .i64 r.2)]
theorem f_Write (l : List Tok) (hl : l.length ≤ 100000000) (hs : (l.map fun t => t.s.length + 1).sum ≤ 100000000) (hsl : ∀ t ∈ l, t.s.length ≤ 100000000) : F Γd 27 [.d (.slice (toksD l))] (textP (writeM (fun _ _ => true) l)) := by
  refine fn_of c27 rfl (by simp only [Env.of, List.zipIdx, List.map]; rfl) ?_
  have h := f_write (bl := fun _ _ => true) l hl hs hsl (fun _ _ a _ b _ => f_Write1 a b)
  generalize writeM (fun _ _ => true) l = r at *
  repeat' (first | ((with_reducible refine wcm ?_); first | refine cF (h) ?_) | refine dr ?_ | (refine ds ?_ ?_ <;> intro hb) | ((with_reducible refine dbm ?_); first | exact db_nil | refine dbc ?_ ?_) | ((with_reducible refine natle ?_); first | assumption | omega | (simp; omega)))
  all_goals (simp [textP]; done)
theorem f_needs' (a b : Tok) (ha : a.s.length ≤ 50000000) (hb : b.s.length ≤ 50000000) : F Γd 56 [.agg a.row, .agg b.row] (.d (.bool (needsM a b))) :=
  f_needs a b (by omega) (by
    have := readM_len isTok [a.s ++ b.s] 1 []
    simp at this
    omega)
theorem f_Tight (l : List Tok) (hl : l.length ≤ 100000000) (hs : (l.map fun t => t.s.length + 1).sum ≤ 100000000) (hsl : ∀ t ∈ l, t.s.length ≤ 50000000) : F Γd 28 [.d (.slice (toksD l))] (textP (writeM needsM l)) := by
  refine fn_of c28 rfl (by simp only [Env.of, List.zipIdx, List.map]; rfl) ?_
  have h := f_write (bl := needsM) l hl hs (fun t ht => by have := hsl t ht; omega) (fun _ _ a ha b hb => f_needs' a b (hsl a ha) (hsl b hb))
  generalize writeM needsM l = r at *
  repeat' (first | ((with_reducible refine wcm ?_); first | refine cF (h) ?_) | refine dr ?_ | (refine ds ?_ ?_ <;> intro hb) | ((with_reducible refine dbm ?_); first | exact db_nil | refine dbc ?_ ?_) | ((with_reducible refine natle ?_); first | assumption | omega | (simp; omega)))
  all_goals (simp [textP]; done)
/-! ### Join -/
def startsM : Int → List (List UInt8) → List Int
  | _, [] => []
  | n, s :: l => n :: startsM (n + (1 + (s.count 10 : Int))) l
def afterM : Int → List (List UInt8) → Int
  | n, [] => n
  | n, s :: l => afterM (n + (1 + (s.count 10 : Int))) l
def withLF (l : List (List UInt8)) : List UInt8 := l.flatMap (· ++ [10])
def joinM (l : List (List UInt8)) : List UInt8 × List Int × Int :=
  if 24 < l.length then ([], [], 3)
  else if l.any (fun s => decide (20000 < s.length)) then ([], [], 3)
  else if 20000 < (withLF l).length then ([], [], 3)
  else (withLF l, startsM 1 l, 0)
theorem startsM_snoc (x : List UInt8) : ∀ (l : List (List UInt8)) (n : Int), startsM n (l ++ [x]) = startsM n l ++ [afterM n l]
  | [], n => rfl
  | s :: l, n => by simp only [List.cons_append, startsM, afterM, startsM_snoc x l]
theorem afterM_snoc (x : List UInt8) : ∀ (l : List (List UInt8)) (n : Int), afterM n (l ++ [x]) = afterM n l + (1 + (x.count 10 : Int))
  | [], n => rfl
  | s :: l, n => by simp only [List.cons_append, afterM, afterM_snoc x l]
theorem startsM_len : ∀ (l : List (List UInt8)) (n : Int), (startsM n l).length = l.length
  | [], _ => rfl
  | s :: l, n => by simp [startsM, startsM_len l]
def intsD (l : List Int) : List (List D) := l.map fun n => [.int .i64 n]
theorem intsD_length (l : List Int) : (intsD l).length = l.length := by simp [intsD]
theorem intsD_len (l : List Int) : ∀ y ∈ intsD l, y.length = 1 := by simp [intsD]
theorem f_Join (l : List (List UInt8)) (hl : l.length ≤ 4294967296) (hs : ∀ s ∈ l, s.length ≤ 4294967296) : F Γd 20 [.d (.slice (strsD l))] (.tup [.d (.str (joinM l).1), .d (.slice (intsD (joinM l).2.1)), .d (.int .i64 (joinM l).2.2)]) := by
  refine fn_of c20 rfl (by simp only [Env.of, List.zipIdx, List.map]; rfl) ?_
  have hln := strsD_length l
  by_cases h24 : 24 < l.length
  · have h : joinM l = ([], [], 3) := by unfold joinM; rw [if_pos h24]
    rw [h]
    repeat' (first | refine dr ?_ | (refine ds ?_ ?_ <;> intro hb) | ((with_reducible refine dbm ?_); first | exact db_nil | refine dbc ?_ ?_) | ((with_reducible refine natle ?_); first | assumption | omega | (simp; omega)))
    exact ⟨rfl, rfl⟩
  repeat' (first | refine dr ?_ | (refine ds ?_ ?_ <;> intro hb) | ((with_reducible refine dbm ?_); first | exact db_nil | refine dbc ?_ ?_) | ((with_reducible refine natle ?_); first | assumption | omega | (simp; omega)))
  generalize hQ : Ex.inBlock 0 _ = Q0
  refine LP_for l (fun i (a : List UInt8 × List Int × Int) => [(5, .ptr 0 0), (6, .lref 2 a.2.1.length), (7, .d (.int .i64 a.2.2)), (13, .d (.slice (strsD l))), (14, .d (.int .i64 l.length)), (15, .d (.int .i64 i))])
    (fun i a => bldAt i a.1 ++ [.lst (3, 1) (intsD a.2.1)])
    (fun i a => a.1 = withLF (l.take i) ∧ a.2.1 = startsM 1 (l.take i) ∧ a.2.2 = afterM 1 (l.take i) ∧ a.1.length ≤ i * 20001 ∧ a.2.1.length = i ∧ 0 ≤ a.2.2 ∧ a.2.2 ≤ 1 + i * 20001 ∧ ∀ s ∈ l.take i, s.length ≤ 20000) ([], [], 1) ?_ rfl ⟨rfl, rfl, rfl, by simp, rfl, by decide, by decide, by simp⟩ ?_ ?_
  · (first | (simp [Env.shr, Env.get, PV.exp, PV.ids, PV.ids.idsL]; done) | simp [Env.shr, Env.get, PV.exp, PV.ids, PV.ids.idsL, *])
  · rintro i x ⟨u, ns, n⟩ hx hi ⟨h1, h2, h3, h4, h5, h6, h7, h8⟩ ih
    simp only at h1 h2 h3 h4 h5 h6 h7
    have hrx := strsD_at hx
    have hxs := hs x (List.mem_of_getElem? hx)
    have htk : l.take (i + 1) = l.take i ++ [x] := by rw [List.take_add_one, hx]; rfl
    have hi24 : i ≤ 24 := by omega
    by_cases hbig : 20000 < x.length
    · have hany : l.any (fun s => decide (20000 < s.length)) = true := by
        rw [List.any_eq_true]; exact ⟨x, List.mem_of_getElem? hx, by simp [hbig]⟩
      have h : joinM l = ([], [], 3) := by unfold joinM; rw [if_neg h24, if_pos hany]
      subst hQ
      rw [h]
      clear h1 h2 h3 h8 ih
      cases i with
      | zero =>
        simp only [bldAt, bld, List.cons_append, List.nil_append]
        repeat' (first | refine dr ?_ | (refine ds ?_ ?_ <;> intro hb) | ((with_reducible refine dbm ?_); first | exact db_nil | refine dbc ?_ ?_) | ((with_reducible refine natle ?_); first | assumption | omega | (simp; omega)))
        all_goals (simp [intsD]; done)
      | succ i =>
        simp only [bldAt, bld, List.cons_append, List.nil_append]
        repeat' (first | refine dr ?_ | (refine ds ?_ ?_ <;> intro hb) | ((with_reducible refine dbm ?_); first | exact db_nil | refine dbc ?_ ?_) | ((with_reducible refine natle ?_); first | assumption | omega | (simp; omega)))
        all_goals (simp [intsD]; done)
    · have hcn : x.count 10 ≤ x.length := List.count_le_length
      have hct := F_Count x 10
      have hil : (intsD ns).length = i := by rw [intsD_length]; exact h5
      have hll := intsD_len ns
      have hnew : (u ++ (x ++ [10])) = withLF (l.take (i + 1)) ∧ ns ++ [n] = startsM 1 (l.take (i + 1)) ∧ n + (1 + (x.count 10 : Int)) = afterM 1 (l.take (i + 1)) := by
        rw [htk, startsM_snoc, afterM_snoc, ← h2, ← h3, h1]
        refine ⟨?_, rfl, rfl⟩
        simp [withLF]
      have hI : ∀ s ∈ l.take (i + 1), s.length ≤ 20000 := by
        intro s hs'
        rw [htk, List.mem_append] at hs'
        rcases hs' with hs' | hs'
        · exact h8 s hs'
        · simp at hs'; subst hs'; omega
      have ih := ih (u ++ (x ++ [10]), ns ++ [n], n + (1 + (x.count 10 : Int))) ⟨hnew.1, hnew.2.1, hnew.2.2, by simp; omega, by simp; omega, by simp only; omega, by simp only; push_cast; omega, hI⟩
      have h10 : ([10] : List UInt8).length = 1 := rfl
      have hbA : (x.count 10 : Int) ≤ 20000 := by omega
      have hbN : n ≤ 1000000 := by omega
      have hbx : (x.length : Int) ≤ 20000 := by omega
      have hbu : (u.length : Int) ≤ 1000000 := by omega
      clear h1 h2 h3 h8 hnew hI htk hs hbig hxs hcn h7 hl h24
      cases i with
      | zero =>
        have hu : u = [] := by cases u with | nil => rfl | cons _ _ => simp at h4
        subst hu
        clear h4 hbu hi24
        have hws := ft_WS0 [] (x ++ [10]) (by simp; omega)
        simp only [bldAt, bld, List.cons_append, List.nil_append, List.length_nil, bytesD, List.map_nil] at hws ⊢
        repeat' (first | ((with_reducible refine wcm ?_); first | refine cF (hct) ?_ | refine cT (hws) ?_) | refine dr ?_ | (refine ds ?_ ?_ <;> intro hb) | ((with_reducible refine dbm ?_); first | exact db_nil | refine dbc ?_ ?_) | ((with_reducible refine natle ?_); first | assumption | omega | (simp; omega)))
        refine LP_at ?_ ?_ ih
        · (first | (simp [Env.shr, Env.get, PV.exp, PV.ids, PV.ids.idsL]; done) | simp [Env.shr, Env.get, PV.exp, PV.ids, PV.ids.idsL, *])
        · simp [bldAt, bld, shrink, Ent.exp, PV.exp, PV.ids, bytesD, intsD]
      | succ i =>
        have hws := ft_WS1 u (x ++ [10]) (by simp; omega)
        clear h4
        simp only [bldAt, bld, List.cons_append, List.nil_append, bytesD_append] at hws ⊢
        repeat' (first | ((with_reducible refine wcm ?_); first | refine cF (hct) ?_ | refine cT (hws) ?_) | refine dr ?_ | (refine ds ?_ ?_ <;> intro hb) | ((with_reducible refine dbm ?_); first | exact db_nil | refine dbc ?_ ?_) | ((with_reducible refine natle ?_); first | assumption | omega | (simp; omega)))
        refine LP_at ?_ ?_ ih
        · (first | (simp [Env.shr, Env.get, PV.exp, PV.ids, PV.ids.idsL]; done) | simp [Env.shr, Env.get, PV.exp, PV.ids, PV.ids.idsL, *])
        · simp [bldAt, bld, shrink, Ent.exp, PV.exp, PV.ids, bytesD, intsD]
  · rintro ⟨u, ns, n⟩ ⟨h1, h2, h3, h4, h5, h6, h7, h8⟩
    simp only at h1 h2 h3 h4 h5 h6 h7
    rw [List.take_length] at h1 h2 h3 h8
    have hany : l.any (fun s => decide (20000 < s.length)) = false := by
      rw [List.any_eq_false]; intro s hs'; have := h8 s hs'; simp; omega
    have h : joinM l = if 20000 < u.length then ([], [], 3) else (u, ns, 0) := by unfold joinM; rw [if_neg h24, if_neg (by rw [hany]; simp), ← h1, ← h2]
    subst hQ
    rw [h]
    clear h h1 h2 h3 h8
    have hil : (intsD ns).length = ns.length := intsD_length ns
    have htk2 : (intsD ns).take ns.length = intsD ns := List.take_of_length_le (by rw [hil]; exact Nat.le_refl _)
    clear hil h5
    cases hll : l.length with
    | zero =>
      rw [hll] at h4
      have hu : u = [] := by cases u with | nil => rfl | cons _ _ => simp at h4
      subst hu
      have hlen := ft_Len .nilp [] (.inl rfl)
      have hst := ft_String .nilp []
      simp only [bldAt, bld, List.length_nil, List.cons_append, List.nil_append] at hlen hst ⊢
      repeat' (first | ((with_reducible refine wcm ?_); first | refine cT (hlen) ?_ | refine cT (hst) ?_) | refine dr ?_ | (refine ds ?_ ?_ <;> intro hb) | ((with_reducible refine dbm ?_); first | exact db_nil | refine dbc ?_ ?_) | ((with_reducible refine natle ?_); first | assumption | omega | (simp; omega)))
      all_goals (simp [htk2]; done)
    | succ n0 =>
      have hlen := ft_Len (.ptr 0 0) u (.inr rfl)
      have hst := ft_String (.ptr 0 0) u
      simp only [bldAt, bld, List.cons_append, List.nil_append] at hlen hst ⊢
      by_cases hu : 20000 < u.length
      · rw [if_pos hu]
        repeat' (first | ((with_reducible refine wcm ?_); first | refine cT (hlen) ?_ | refine cT (hst) ?_) | refine dr ?_ | (refine ds ?_ ?_ <;> intro hb) | ((with_reducible refine dbm ?_); first | exact db_nil | refine dbc ?_ ?_) | ((with_reducible refine natle ?_); first | assumption | omega | (simp; omega)))
        all_goals (simp [intsD]; done)
      · rw [if_neg hu]
        repeat' (first | ((with_reducible refine wcm ?_); first | refine cT (hlen) ?_ | refine cT (hst) ?_) | refine dr ?_ | (refine ds ?_ ?_ <;> intro hb) | ((with_reducible refine dbm ?_); first | exact db_nil | refine dbc ?_ ?_) | ((with_reducible refine natle ?_); first | assumption | omega | (simp; omega)))
        all_goals (simp [htk2]; done)
end Go.Plane
end
section
set_option linter.unusedVariables false
set_option linter.unusedSimpArgs false
set_option maxRecDepth 100000
set_option maxHeartbeats 8000000
namespace Go.Plane
open Go Go.Proofs
attribute [local irreducible] wops wio wic wdt wdb onOut
/-- A token stands in the text, behind another. -/
def okAt (s : List UInt8) : Option Tok → Tok → Bool
  | none, t => decide ((offsetM s t.l t.c).2 = 0)
  | some p, t => decide ((offsetM s t.l t.c).2 = 0) && !(decide (p.l = t.l ∧ p.c = t.c) || decide (0 < compareM p.l p.c t.l t.c))
def okToks (s : List UInt8) : Option Tok → List Tok → Bool
  | _, [] => true
  | o, t :: l => okAt s o t && okToks s (some t) l
theorem okToks_snoc (s : List UInt8) (x : Tok) : ∀ (l : List Tok) (o : Option Tok), okToks s o (l ++ [x]) = (okToks s o l && okAt s (l.getLast?.or o) x)
  | [], o => by simp [okToks]
  | t :: l, o => by
    simp only [List.cons_append, okToks, okToks_snoc s x l (some t)]
    rw [show (t :: l).getLast?.or o = l.getLast?.or (some t) by
      cases l with
      | nil => simp
      | cons y l =>
        simp only [List.getLast?_cons_cons]
        cases h : (y :: l).getLast? with
        | none => simp at h
        | some z => rfl]
    simp [Bool.and_assoc]
theorem okToks_app (s : List UInt8) : ∀ (l m : List Tok) (o : Option Tok), okToks s o l = false → okToks s o (l ++ m) = false
  | [], m, o, h => by simp [okToks] at h
  | t :: l, m, o, h => by
    simp only [List.cons_append, okToks, Bool.and_eq_false_iff] at *
    exact h.imp_right (okToks_app s l m _)
def shiftT (d : Int) (t : Tok) : Tok := { t with l := t.l + d }
/-- Behind the reading of what is fresh. -/
def patchT (l : List Tok) (f t e : Int) (r : List Tok × Int × Int × Int) : List Tok × Int × (Int × Int) × Int :=
  if r.2.2.2 ≠ 0 then ([], 0, (r.2.1, r.2.2.1), r.2.2.2)
  else if 6000 < ((l.filter fun y => decide (y.l < f)) ++ (r.1 ++ (l.filter fun y => !decide (y.l < f) && decide (t < y.l)).map (shiftT (e - t)))).length then ([], 0, (0, 0), 3)
  else ((l.filter fun y => decide (y.l < f)) ++ (r.1 ++ (l.filter fun y => !decide (y.l < f) && decide (t < y.l)).map (shiftT (e - t))), r.1.length, (0, 0), 0)
/-- The tokens, how many are fresh, the place, the error. -/
def patchM (l : List Tok) (s : List UInt8) (a b : Int) (x : List UInt8) : List Tok × Int × (Int × Int) × Int :=
  if (editM s a b x).2 ≠ 0 then ([], 0, (0, 0), (editM s a b x).2)
  else if okToks s none l = false then ([], 0, (0, 0), 1)
  else patchT l (placeOfM s a).1.1 (placeOfM s b).1.1 (placeOfM (editM s a b x).1 (a + x.length)).1.1
    (readM isTok (placeOfM s a).1.1 (((splitL 10 (editM s a b x).1).take (placeOfM (editM s a b x).1 (a + x.length)).1.1.toNat).drop ((placeOfM s a).1.1 - 1).toNat) [])
def patchP (r : List Tok × Int × (Int × Int) × Int) : PV := .tup [.d (.slice (toksD r.1)), .d (.int .i64 r.2.1), .agg [.int .i64 r.2.2.1.1, .int .i64 r.2.2.1.2], .d (.int .i64 r.2.2.2)]
theorem okAt_off {s : List UInt8} {o : Option Tok} {t : Tok} (h : okAt s o t = true) : (offsetM s t.l t.c).2 = 0 := by
  cases o with
  | none => simpa [okAt] using h
  | some p => simp [okAt] at h; exact h.1
theorem okToks_mem (s : List UInt8) : ∀ (l : List Tok) (o : Option Tok), okToks s o l = true → ∀ t ∈ l, 1 ≤ t.l ∧ t.l ≤ (splitL 10 s).length
  | [], _, _ => by simp
  | t :: l, o, h => by
    simp only [okToks, Bool.and_eq_true] at h
    intro y hy
    rcases List.mem_cons.1 hy with rfl | hy
    · have := okAt_off h.1
      unfold offsetM at this
      split at this
      · cases this
      · omega
    · exact okToks_mem s l _ h.2 y hy
theorem sum_sub (l : List (List UInt8)) (m n : Nat) : (((l.take m).drop n).map List.length).sum ≤ (l.map List.length).sum := by
  have h1 : ∀ (l : List (List UInt8)) (k : Nat), ((l.drop k).map List.length).sum ≤ (l.map List.length).sum := fun l k => by
    conv => rhs; rw [← List.take_append_drop k l, List.map_append, List.sum_append]
    omega
  have h2 : ((l.take m).map List.length).sum ≤ (l.map List.length).sum := by
    conv => rhs; rw [← List.take_append_drop m l, List.map_append, List.sum_append]
    omega
  exact Nat.le_trans (h1 _ _) h2
theorem f_Patch (l : List Tok) (s : List UInt8) (a b : Int) (x : List UInt8) (hl : l.length ≤ 100000) (hs : s.length ≤ 1000000) (hx : x.length ≤ 1000000) :
    F Γd 25 [.d (.slice (toksD l)), .d (.str s), .agg [.int .i64 a, .int .i64 b, .str x]] (patchP (patchM l s a b x)) := by
  refine fn_of c25 rfl (by simp only [Env.of, List.zipIdx, List.map]; rfl) ?_
  have hln := toksD_length l
  have hE := f_Edit s a b x (by omega) (by omega)
  by_cases he : (editM s a b x).2 = 0
  case neg =>
    have h : patchM l s a b x = ([], 0, (0, 0), (editM s a b x).2) := by unfold patchM; rw [if_pos he]
    rw [h]
    generalize editM s a b x = e at *
    repeat' (first | ((with_reducible refine wcm ?_); first | refine cF (hE) ?_) | refine dr ?_ | (refine ds ?_ ?_ <;> intro hb) | ((with_reducible refine dbm ?_); first | exact db_nil | refine dbc ?_ ?_) | ((with_reducible refine natle ?_); first | assumption | omega | (simp; omega)))
    all_goals (simp [patchP, toksD]; done)
  have hab : 0 ≤ a ∧ a ≤ b ∧ b ≤ s.length := by
    unfold editM at he
    split at he
    · cases he
    · omega
  repeat' (first | ((with_reducible refine wcm ?_); first | refine cF (hE) ?_) | refine dr ?_ | (refine ds ?_ ?_ <;> intro hb) | ((with_reducible refine dbm ?_); first | exact db_nil | refine dbc ?_ ?_) | ((with_reducible refine natle ?_); first | assumption | omega | (simp; omega)))
  refine LP_for l (fun i _ => [(0, .d (.slice (toksD l))), (1, .d (.str s)), (5, .ptr 0 0), (8, .ptr 1 0), (10, .d (.str (editM s a b x).1)), (39, .d (.slice (toksD l))), (40, .d (.int .i64 l.length)), (41, .d (.int .i64 i))])
    (fun _ _ => [.box 25 [.d (.int .i64 a), .d (.int .i64 b), .d (.str x)], .box 23 [.d (.int .i64 0), .d (.int .i64 0)]]) (fun i (_ : Unit) => okToks s none (l.take i) = true) () ?_ ?_ rfl ?_ ?_
  · (first | (simp [Env.shr, Env.get, PV.exp, PV.ids, PV.ids.idsL]; done) | simp [Env.shr, Env.get, PV.exp, PV.ids, PV.ids.idsL, *])
  · simp [shrink, Ent.exp, PV.exp, PV.ids]
  · rintro i y _ hy hi hI ih
    have hr := toksD_at hy
    have hO := f_Offset s y.l y.c (by omega)
    have htk : l.take (i + 1) = l.take i ++ [y] := by rw [List.take_add_one, hy]; rfl
    have hbad : okAt s ((l.take i).getLast?.or none) y = false → patchM l s a b x = ([], 0, (0, 0), 1) := fun h => by
      have : okToks s none l = false := by
        rw [← List.take_append_drop (i + 1) l, htk]
        refine okToks_app s _ _ _ ?_
        rw [okToks_snoc, h, Bool.and_false]
      unfold patchM
      rw [if_neg (by simp [he]), if_pos this]
    have hgood : okAt s ((l.take i).getLast?.or none) y = true → okToks s none (l.take (i + 1)) = true := fun h => by
      rw [htk, okToks_snoc, hI, h]; rfl
    clear hI htk
    cases i with
    | zero =>
      simp only [List.take_zero, List.getLast?_nil, Option.or_none, okAt] at hbad hgood
      by_cases ho : (offsetM s y.l y.c).2 = 0
      · have ih := ih () (hgood (by simp [ho]))
        clear hbad hgood
        generalize editM s a b x = e at *
        generalize offsetM s y.l y.c = o at *
        repeat' (first | ((with_reducible refine wcm ?_); first | refine cF (hO) ?_) | refine dr ?_ | (refine ds ?_ ?_ <;> intro hb) | ((with_reducible refine dbm ?_); first | exact db_nil | refine dbc ?_ ?_) | ((with_reducible refine natle ?_); first | assumption | omega | (simp; omega)))
        refine LP_at ?_ ?_ ih
        · (first | (simp [Env.shr, Env.get, PV.exp, PV.ids, PV.ids.idsL]; done) | simp [Env.shr, Env.get, PV.exp, PV.ids, PV.ids.idsL, *])
        · simp [shrink, Ent.exp, PV.exp, PV.ids]
      · have hp := hbad (by simp [ho])
        rw [hp]
        clear hbad hgood ih
        generalize editM s a b x = e at *
        generalize offsetM s y.l y.c = o at *
        repeat' (first | ((with_reducible refine wcm ?_); first | refine cF (hO) ?_) | refine dr ?_ | (refine ds ?_ ?_ <;> intro hb) | ((with_reducible refine dbm ?_); first | exact db_nil | refine dbc ?_ ?_) | ((with_reducible refine natle ?_); first | assumption | omega | (simp; omega)))
        all_goals (simp [patchP, toksD]; done)
    | succ j =>
      have hj : j < l.length := by omega
      have hy0 : l[j]? = some l[j] := List.getElem?_eq_getElem hj
      generalize l[j] = p at hy0
      have hry0 := toksD_at hy0
      have hry : (toksD l)[((((j + 1 : Nat) : Int) - 1).toNat)]? = some [.int .i64 p.k, .str p.s, .int .i64 p.l, .int .i64 p.c] := by rw [show (((j + 1 : Nat) : Int) - 1).toNat = j by omega]; exact hry0
      rw [getLast_take hy0] at hbad hgood
      simp only [Option.some_or, okAt] at hbad hgood
      have hC := f_compare p.l p.c y.l y.c
      clear hry0
      by_cases ho : (offsetM s y.l y.c).2 = 0
      · cases heq : (p.l == y.l && p.c == y.c) with
        | true =>
          have hpe : p.l = y.l ∧ p.c = y.c := by simpa using heq
          have hp := hbad (by simp [hpe.1, hpe.2])
          rw [hp]
          clear hbad hgood ih hpe
          generalize editM s a b x = e at *
          generalize offsetM s y.l y.c = o at *
          repeat' (first | ((with_reducible refine wcm ?_); first | refine cF (hO) ?_ | refine cF (hC) ?_) | refine dr ?_ | (refine ds ?_ ?_ <;> intro hb) | ((with_reducible refine dbm ?_); first | exact db_nil | refine dbc ?_ ?_) | ((with_reducible refine natle ?_); first | assumption | omega | (simp; omega)))
          all_goals (simp [patchP, toksD]; done)
        | false =>
          have hpe : ¬(p.l = y.l ∧ p.c = y.c) := by simpa using heq
          by_cases hc : 0 < compareM p.l p.c y.l y.c
          · have hp := hbad (by simp [hc])
            rw [hp]
            clear hbad hgood ih hpe
            generalize editM s a b x = e at *
            generalize offsetM s y.l y.c = o at *
            generalize compareM p.l p.c y.l y.c = cc at *
            repeat' (first | ((with_reducible refine wcm ?_); first | refine cF (hO) ?_ | refine cF (hC) ?_) | refine dr ?_ | (refine ds ?_ ?_ <;> intro hb) | ((with_reducible refine dbm ?_); first | exact db_nil | refine dbc ?_ ?_) | ((with_reducible refine natle ?_); first | assumption | omega | (simp; omega)))
            all_goals (simp [patchP, toksD]; done)
          · have ih := ih () (hgood (by simp [ho, hpe, hc]))
            clear hbad hgood hpe
            generalize editM s a b x = e at *
            generalize offsetM s y.l y.c = o at *
            generalize compareM p.l p.c y.l y.c = cc at *
            repeat' (first | ((with_reducible refine wcm ?_); first | refine cF (hO) ?_ | refine cF (hC) ?_) | refine dr ?_ | (refine ds ?_ ?_ <;> intro hb) | ((with_reducible refine dbm ?_); first | exact db_nil | refine dbc ?_ ?_) | ((with_reducible refine natle ?_); first | assumption | omega | (simp; omega)))
            refine LP_at ?_ ?_ ih
            · (first | (simp [Env.shr, Env.get, PV.exp, PV.ids, PV.ids.idsL]; done) | simp [Env.shr, Env.get, PV.exp, PV.ids, PV.ids.idsL, *])
            · simp [shrink, Ent.exp, PV.exp, PV.ids]
      · have hp := hbad (by simp [ho])
        rw [hp]
        clear hbad hgood ih
        generalize editM s a b x = e at *
        generalize offsetM s y.l y.c = o at *
        repeat' (first | ((with_reducible refine wcm ?_); first | refine cF (hO) ?_) | refine dr ?_ | (refine ds ?_ ?_ <;> intro hb) | ((with_reducible refine dbm ?_); first | exact db_nil | refine dbc ?_ ?_) | ((with_reducible refine natle ?_); first | assumption | omega | (simp; omega)))
        all_goals (simp [patchP, toksD]; done)
  · rintro _ hI
    rw [List.take_length] at hI
    have hmem := okToks_mem s l none hI
    have hpm : patchM l s a b x = patchT l (placeOfM s a).1.1 (placeOfM s b).1.1 (placeOfM (editM s a b x).1 (a + x.length)).1.1
        (readM isTok (placeOfM s a).1.1 (((splitL 10 (editM s a b x).1).take (placeOfM (editM s a b x).1 (a + x.length)).1.1.toNat).drop ((placeOfM s a).1.1 - 1).toNat) []) := by unfold patchM; rw [if_neg (by simp [he]), if_neg (by simp [hI])]
    have hnl : ((editM s a b x).1.length : Int) ≤ 20000 ∧ (editM s a b x).1 = s.take a.toNat ++ x ++ s.drop b.toNat := by
      unfold editM at he ⊢
      split at he
      · cases he
      · rename_i h1
        split at he
        · cases he
        · rename_i h2
          rw [if_neg h1, if_neg h2]
          refine ⟨?_, rfl⟩
          simp only [List.length_append, List.length_take, List.length_drop]
          push_cast
          omega
    obtain ⟨hn1, hn2⟩ := hnl
    have hlen1 : ((editM s a b x).1.length : Int) = a + x.length + (s.length - b) := by
      rw [hn2]
      simp only [List.length_append, List.length_take, List.length_drop]
      push_cast
      omega
    have hP1 := f_PlaceOf s a (by omega)
    have hP2 := f_PlaceOf s b (by omega)
    have hP3 := f_PlaceOf (editM s a b x).1 (a + x.length) (by omega)
    have hSp := F_Split (editM s a b x).1 10 (by omega)
    have hcount : ∀ (u : List UInt8), u.count 10 ≤ u.length := fun u => List.count_le_length
    have hspl := splitL_length 10 (editM s a b x).1
    have hspl2 := splitL_length 10 s
    have hc1 := hcount (editM s a b x).1
    have hc2 := hcount s
    have hc3 := hcount (s.take b.toNat)
    rw [List.length_take] at hc3
    have hpa : (placeOfM s a).1.1 = 1 + ((s.take a.toNat).count 10 : Int) := by unfold placeOfM; rw [if_neg (by omega)]
    have hpb : (placeOfM s b).1.1 = 1 + ((s.take b.toNat).count 10 : Int) := by unfold placeOfM; rw [if_neg (by omega)]
    have hpe : (placeOfM (editM s a b x).1 (a + x.length)).1.1 = 1 + (((editM s a b x).1.take (a + x.length).toNat).count 10 : Int) := by unfold placeOfM; rw [if_neg (by omega)]
    have hle1 : (s.take a.toNat).count 10 ≤ ((editM s a b x).1.take (a + x.length).toNat).count 10 := by
      have : (editM s a b x).1.take (a + x.length).toNat = s.take a.toNat ++ x := by
        rw [hn2, List.take_append_of_le_length (by simp only [List.length_append, List.length_take]; omega), List.take_of_length_le (by simp only [List.length_append, List.length_take]; omega)]
      rw [this, List.count_append]
      omega
    have hle2 : ((editM s a b x).1.take (a + x.length).toNat).count 10 ≤ (editM s a b x).1.count 10 := (List.take_sublist _ _).count_le _
    have hF : 1 ≤ (placeOfM s a).1.1 ∧ (placeOfM s a).1.1 ≤ (placeOfM (editM s a b x).1 (a + x.length)).1.1 ∧ (placeOfM (editM s a b x).1 (a + x.length)).1.1 ≤ (splitL 10 (editM s a b x).1).length ∧ (splitL 10 (editM s a b x).1).length ≤ 20001 ∧ 1 ≤ (placeOfM s b).1.1 ∧ (placeOfM s b).1.1 ≤ 1000001 := by omega
    have hL : ∀ t ∈ l, 1 ≤ t.l ∧ t.l ≤ 1000001 := fun t ht => by have := hmem t ht; omega
    have hsum := sum_sub (splitL 10 (editM s a b x).1) (placeOfM (editM s a b x).1 (a + x.length)).1.1.toNat ((placeOfM s a).1.1 - 1).toNat
    have hsum2 := splitL_sum 10 (editM s a b x).1
    have hrd := f_read (want := isTok) (fun k => f_token k) (((splitL 10 (editM s a b x).1).take (placeOfM (editM s a b x).1 (a + x.length)).1.1.toNat).drop ((placeOfM s a).1.1 - 1).toNat) (placeOfM s a).1.1 (by omega) (by omega) (by simp only [List.length_drop, List.length_take]; omega)
    have hrl := readM_len isTok (((splitL 10 (editM s a b x).1).take (placeOfM (editM s a b x).1 (a + x.length)).1.1.toNat).drop ((placeOfM s a).1.1 - 1).toNat) (placeOfM s a).1.1 []
    have hrl2 : (readM isTok (placeOfM s a).1.1 (((splitL 10 (editM s a b x).1).take (placeOfM (editM s a b x).1 (a + x.length)).1.1.toNat).drop ((placeOfM s a).1.1 - 1).toNat) []).1.length ≤ 20000 := by
      simp only [List.length_nil] at hrl
      omega
    have hsl := strsD_length (splitL 10 (editM s a b x).1)
    have hsa := strsD_len (splitL 10 (editM s a b x).1)
    rw [← strsD_drop, ← strsD_take] at hrd
    rw [hpm]
    clear hpm hrl hsum hsum2 hle1 hle2 hpa hpb hpe hc1 hc2 hc3 hcount hspl hspl2 hlen1 hn2 hmem hI
    generalize readM isTok (placeOfM s a).1.1 (((splitL 10 (editM s a b x).1).take (placeOfM (editM s a b x).1 (a + x.length)).1.1.toNat).drop ((placeOfM s a).1.1 - 1).toNat) [] = r at *
    generalize placeOfM (editM s a b x).1 (a + x.length) = pe at *
    generalize placeOfM s a = pa at *
    generalize placeOfM s b = pb at *
    generalize splitL 10 (editM s a b x).1 = sp at *
    generalize editM s a b x = e at *
    obtain ⟨f1, f2, f3, f4, f5, f6⟩ := hF
    by_cases hre : r.2.2.2 = 0
    case neg =>
      rw [show patchT l pa.1.1 pb.1.1 pe.1.1 r = ([], 0, (r.2.1, r.2.2.1), r.2.2.2) by unfold patchT; rw [if_pos hre]]
      repeat' (first | ((with_reducible refine wcm ?_); first | refine cF (hP1) ?_ | refine cF (hP2) ?_ | refine cF (hP3) ?_ | refine cF (hSp) ?_ | refine cF (hrd) ?_) | refine dr ?_ | (refine ds ?_ ?_ <;> intro hb) | ((with_reducible refine dbm ?_); first | exact db_nil | refine dbc ?_ ?_) | ((with_reducible refine natle ?_); first | assumption | omega | (simp; omega)))
      all_goals (simp [patchP, toksD]; done)
    have hpt : patchT l pa.1.1 pb.1.1 pe.1.1 r = if 6000 < ((l.filter fun y => decide (y.l < pa.1.1)) ++ (r.1 ++ (l.filter fun y => !decide (y.l < pa.1.1) && decide (pb.1.1 < y.l)).map (shiftT (pe.1.1 - pb.1.1)))).length then ([], 0, (0, 0), 3)
        else ((l.filter fun y => decide (y.l < pa.1.1)) ++ (r.1 ++ (l.filter fun y => !decide (y.l < pa.1.1) && decide (pb.1.1 < y.l)).map (shiftT (pe.1.1 - pb.1.1))), (r.1.length : Int), (0, 0), 0) := by unfold patchT; rw [if_neg (by simp [hre])]
    rw [hpt]
    clear hpt
    repeat' (first | ((with_reducible refine wcm ?_); first | refine cF (hP1) ?_ | refine cF (hP2) ?_ | refine cF (hP3) ?_ | refine cF (hSp) ?_ | refine cF (hrd) ?_) | refine dr ?_ | (refine ds ?_ ?_ <;> intro hb) | ((with_reducible refine dbm ?_); first | exact db_nil | refine dbc ?_ ?_) | ((with_reducible refine natle ?_); first | assumption | omega | (simp; omega)))
    all_goals
      refine LP_for l (fun i (c : List Tok × List Tok) => [(8, .ptr 1 0), (16, .ptr 2 0), (18, .ptr 3 0), (20, .ptr 4 0), (22, .d (.slice (toksD r.1))), (24, .lref 6 c.1.length), (25, .lref 7 c.2.length), (128, .d (.slice (toksD l))), (129, .d (.int .i64 l.length)), (130, .d (.int .i64 i))])
        (fun i c => [.box 25 [.d (.int .i64 a), .d (.int .i64 b), .d (.str x)], .box 23 [.d (.int .i64 0), .d (.int .i64 0)], .box 23 [.d (.int .i64 pa.1.1), .d (.int .i64 pa.1.2)], .box 23 [.d (.int .i64 pb.1.1), .d (.int .i64 pb.1.2)], .box 23 [.d (.int .i64 pe.1.1), .d (.int .i64 pe.1.2)], .box 23 [.d (.int .i64 r.2.1), .d (.int .i64 r.2.2.1)], .lst (57, 4) (toksD c.1), .lst (57, 4) (toksD c.2)])
        (fun i c => c.1 = (l.take i).filter (fun y => decide (y.l < pa.1.1)) ∧ c.2 = ((l.take i).filter (fun y => !decide (y.l < pa.1.1) && decide (pb.1.1 < y.l))).map (shiftT (pe.1.1 - pb.1.1)) ∧ c.1.length ≤ i ∧ c.2.length ≤ i) ([], []) ?_ ?_ ⟨rfl, rfl, by simp, by simp⟩ ?_ ?_
      · (first | (simp [Env.shr, Env.get, PV.exp, PV.ids, PV.ids.idsL]; done) | simp [Env.shr, Env.get, PV.exp, PV.ids, PV.ids.idsL, *])
      · simp [shrink, Ent.exp, PV.exp, PV.ids, toksD]
      · rintro i y ⟨c1, c2⟩ hy hi ⟨h1, h2, h3, h4⟩ ih
        simp only at h1 h2 h3 h4
        have hr := toksD_at hy
        have hyl := hL y (List.mem_of_getElem? hy)
        have htk : l.take (i + 1) = l.take i ++ [y] := by rw [List.take_add_one, hy]; rfl
        have g1 := toksD_len c1
        have g2 := toksD_len c2
        have g3 := toksD_length c1
        have g4 := toksD_length c2
        by_cases hA : y.l < pa.1.1
        · have ih := ih (c1 ++ [y], c2) ⟨by simp only; rw [htk, List.filter_append, ← h1]; simp [hA], by simp only; rw [htk, List.filter_append, List.map_append, ← h2]; simp [hA], by simp; omega, by simp only; omega⟩
          clear h1 h2 htk
          repeat' (first | refine dr ?_ | (refine ds ?_ ?_ <;> intro hb) | ((with_reducible refine dbm ?_); first | exact db_nil | refine dbc ?_ ?_) | ((with_reducible refine natle ?_); first | assumption | omega | (simp; omega)))
          refine LP_at ?_ ?_ ih
          · (first | (simp [Env.shr, Env.get, PV.exp, PV.ids, PV.ids.idsL]; done) | simp [Env.shr, Env.get, PV.exp, PV.ids, PV.ids.idsL, *])
          · simp [shrink, Ent.exp, PV.exp, PV.ids, toksD]
        · by_cases hB : pb.1.1 < y.l
          · have ih := ih (c1, c2 ++ [shiftT (pe.1.1 - pb.1.1) y]) ⟨by simp only; rw [htk, List.filter_append, ← h1]; simp [hA], by simp only; rw [htk, List.filter_append, List.map_append, ← h2]; simp [hA, hB], by simp only; omega, by simp; omega⟩
            clear h1 h2 htk
            repeat' (first | refine dr ?_ | (refine ds ?_ ?_ <;> intro hb) | ((with_reducible refine dbm ?_); first | exact db_nil | refine dbc ?_ ?_) | ((with_reducible refine natle ?_); first | assumption | omega | (simp; omega)))
            refine LP_at ?_ ?_ ih
            · (first | (simp [Env.shr, Env.get, PV.exp, PV.ids, PV.ids.idsL]; done) | simp [Env.shr, Env.get, PV.exp, PV.ids, PV.ids.idsL, *])
            · simp [shrink, Ent.exp, PV.exp, PV.ids, toksD, shiftT]
          · have ih := ih (c1, c2) ⟨by simp only; rw [htk, List.filter_append, ← h1]; simp [hA], by simp only; rw [htk, List.filter_append, List.map_append, ← h2]; simp [hA, hB], by simp only; omega, by simp only; omega⟩
            clear h1 h2 htk
            repeat' (first | refine dr ?_ | (refine ds ?_ ?_ <;> intro hb) | ((with_reducible refine dbm ?_); first | exact db_nil | refine dbc ?_ ?_) | ((with_reducible refine natle ?_); first | assumption | omega | (simp; omega)))
            refine LP_at ?_ ?_ ih
            · (first | (simp [Env.shr, Env.get, PV.exp, PV.ids, PV.ids.idsL]; done) | simp [Env.shr, Env.get, PV.exp, PV.ids, PV.ids.idsL, *])
            · simp [shrink, Ent.exp, PV.exp, PV.ids, toksD]
      · rintro ⟨c1, c2⟩ ⟨h1, h2, h3, h4⟩
        simp only at h1 h2 h3 h4
        rw [List.take_length] at h1 h2
        rw [← h1, ← h2]
        clear h1 h2
        have g1 := toksD_len c1
        have g2 := toksD_len c2
        have t1 : (toksD c1).take c1.length = toksD c1 := List.take_of_length_le (by rw [toksD_length]; exact Nat.le_refl _)
        have t2 : (toksD c2).take c2.length = toksD c2 := List.take_of_length_le (by rw [toksD_length]; exact Nat.le_refl _)
        have hj := f_joined [c1, r.1, c2] (by simp) (by simp; omega)
        have htl := toksD_length (c1 ++ (r.1 ++ c2))
        have hrl3 := toksD_length r.1
        simp only [List.map, List.flatten_cons, List.flatten_nil, List.append_nil] at hj
        generalize c1 ++ (r.1 ++ c2) = out at *
        by_cases h6 : 6000 < out.length
        · rw [if_pos h6]
          repeat' (first | ((with_reducible refine wcm ?_); first | refine cF (hj) ?_) | refine dr ?_ | (refine ds ?_ ?_ <;> intro hb) | ((with_reducible refine dbm ?_); first | exact db_nil | refine dbc ?_ ?_) | ((with_reducible refine natle ?_); first | assumption | omega | (simp; omega)))
          all_goals (simp [patchP, toksD]; done)
        · rw [if_neg h6]
          repeat' (first | ((with_reducible refine wcm ?_); first | refine cF (hj) ?_) | refine dr ?_ | (refine ds ?_ ?_ <;> intro hb) | ((with_reducible refine dbm ?_); first | exact db_nil | refine dbc ?_ ?_) | ((with_reducible refine natle ?_); first | assumption | omega | (simp; omega)))
          all_goals (simp [patchP, toksD]; done)
end Go.Plane
end
section
set_option linter.unusedVariables false
set_option linter.unusedSimpArgs false
set_option maxRecDepth 100000
set_option maxHeartbeats 4000000
namespace Go.Plane
open Go Go.Proofs
/-! ### The models at the law's examples -/
theorem ex_T1 : tokensM [120, 32, 58, 61, 32, 97, 47, 47, 50, 32, 45, 45, 32, 104, 97, 108, 102] = ([⟨1, [120], 1, 1⟩, ⟨5, [58, 61], 1, 3⟩, ⟨1, [97], 1, 6⟩, ⟨5, [47, 47], 1, 7⟩, ⟨4, [50], 1, 9⟩], 0, 0, 0) := by kernel_rfl
theorem ex_T2 : tokensM [65, 46, 98, 10, 32, 48, 49] = ([], 2, 2, 2) := by kernel_rfl
theorem ex_T3 : tokensM [114, 101, 115, 117, 108, 116] = ([], 1, 1, 4) := by kernel_rfl
theorem ex_T4 : tokensM [82, 101, 115, 117, 108, 116, 115] = ([], 1, 1, 2) := by kernel_rfl
theorem ex_W : writeM needsM [⟨3, [105, 102], 0, 0⟩, ⟨1, [97], 0, 0⟩, ⟨5, [60], 0, 0⟩, ⟨5, [61], 0, 0⟩, ⟨3, [116, 104, 101, 110], 0, 0⟩] = ([105, 102, 32, 97, 60, 32, 61, 116, 104, 101, 110], 0) := by kernel_rfl
theorem ex_O1 : offsetM [97, 98, 10, 99, 100] 2 3 = (5, 0) := by kernel_rfl
theorem ex_O2 : offsetM [97, 98, 10, 99, 100] 2 4 = (0, 1) := by kernel_rfl
theorem ex_T5 : tokensM [97, 10, 98, 32, 99, 10, 100] = ([⟨1, [97], 1, 1⟩, ⟨1, [98], 2, 1⟩, ⟨1, [99], 2, 3⟩, ⟨1, [100], 3, 1⟩], 0, 0, 0) := by kernel_rfl
theorem ex_P : patchM [⟨1, [97], 1, 1⟩, ⟨1, [98], 2, 1⟩, ⟨1, [99], 2, 3⟩, ⟨1, [100], 3, 1⟩] [97, 10, 98, 32, 99, 10, 100] 2 3 [120, 10, 121] = ([⟨1, [97], 1, 1⟩, ⟨1, [120], 2, 1⟩, ⟨1, [121], 3, 1⟩, ⟨1, [99], 3, 3⟩, ⟨1, [100], 4, 1⟩], 3, (0, 0), 0) := by kernel_rfl
theorem ex_J : joinM [[97], [98, 10]] = ([97, 10, 98, 10, 10], [1, 2], 0) := by kernel_rfl
theorem f_at (l c : Int) : F Γd 40 [.d (.int .i64 l), .d (.int .i64 c)] (.agg [.int .i64 l, .int .i64 c]) := by
  refine fn_of c40 rfl (by simp only [Env.of, List.zipIdx, List.map]; rfl) ?_
  repeat' (first | refine dr ?_ | (refine ds ?_ ?_ <;> intro hb) | ((with_reducible refine dbm ?_); first | exact db_nil | refine dbc ?_ ?_) | ((with_reducible refine natle ?_); first | assumption | omega | (simp; omega)))
  all_goals (simp; done)
def shortM (s : List UInt8) : Bool := decide (s.length ≤ 400 ∨ (20000 < s.length ∧ s.length ≤ 20100))
theorem f_short (s : List UInt8) : F Γd 12 [.d (.str s)] (.d (.bool (shortM s))) := by
  refine fn_of c12 rfl (by simp only [Env.of, List.zipIdx, List.map]; rfl) ?_
  repeat' (first | refine dr ?_ | (refine ds ?_ ?_ <;> intro hb) | ((with_reducible refine dbm ?_); first | exact db_nil | refine dbc ?_ ?_) | ((with_reducible refine natle ?_); first | assumption | omega | (simp; omega)))
  all_goals first
    | (rw [show shortM s = true by unfold shortM; rw [decide_eq_true_eq]; omega]; simp [*]; done)
    | (rw [show shortM s = false by unfold shortM; rw [decide_eq_false_iff_not]; omega]; simp [*]; done)
    | (by_cases h : s.length ≤ 20100
       · rw [show shortM s = true by unfold shortM; rw [decide_eq_true_eq]; omega]; simp; omega
       · rw [show shortM s = false by unfold shortM; rw [decide_eq_false_iff_not]; omega]; simp; omega)
theorem f_sanity : F Γd 13 [] (.d (.bool true)) := by
  refine fn_of c13 rfl (by simp only [Env.of, List.zipIdx, List.map]; rfl) ?_
  have hT1 := f_Tokens [120, 32, 58, 61, 32, 97, 47, 47, 50, 32, 45, 45, 32, 104, 97, 108, 102] (by decide)
  rw [ex_T1] at hT1
  simp only [readP, toksD, List.map_cons, List.map_nil, Tok.row] at hT1
  have hT2 := f_Tokens [65, 46, 98, 10, 32, 48, 49] (by decide)
  rw [ex_T2] at hT2
  simp only [readP, toksD, List.map_cons, List.map_nil, Tok.row] at hT2
  have hT3 := f_Tokens [114, 101, 115, 117, 108, 116] (by decide)
  rw [ex_T3] at hT3
  simp only [readP, toksD, List.map_cons, List.map_nil, Tok.row] at hT3
  have hT4 := f_Tokens [82, 101, 115, 117, 108, 116, 115] (by decide)
  rw [ex_T4] at hT4
  simp only [readP, toksD, List.map_cons, List.map_nil, Tok.row] at hT4
  have hW := f_Tight [⟨3, [105, 102], 0, 0⟩, ⟨1, [97], 0, 0⟩, ⟨5, [60], 0, 0⟩, ⟨5, [61], 0, 0⟩, ⟨3, [116, 104, 101, 110], 0, 0⟩] (by decide) (by decide) (by decide)
  rw [ex_W] at hW
  simp only [textP, toksD, List.map_cons, List.map_nil, Tok.row] at hW
  have hO1 := f_Offset [97, 98, 10, 99, 100] 2 3 (by decide)
  rw [ex_O1] at hO1
  simp only [pairI] at hO1
  have hO2 := f_Offset [97, 98, 10, 99, 100] 2 4 (by decide)
  rw [ex_O2] at hO2
  simp only [pairI] at hO2
  have hT5 := f_Tokens [97, 10, 98, 32, 99, 10, 100] (by decide)
  rw [ex_T5] at hT5
  simp only [readP, toksD, List.map_cons, List.map_nil, Tok.row] at hT5
  have hP := f_Patch [⟨1, [97], 1, 1⟩, ⟨1, [98], 2, 1⟩, ⟨1, [99], 2, 3⟩, ⟨1, [100], 3, 1⟩] [97, 10, 98, 32, 99, 10, 100] 2 3 [120, 10, 121] (by decide) (by decide) (by decide)
  rw [ex_P] at hP
  simp only [patchP, toksD, List.map_cons, List.map_nil, Tok.row] at hP
  have hJ := f_Join [[97], [98, 10]] (by decide) (by decide)
  rw [ex_J] at hJ
  simp only [strsD, intsD, List.map_cons, List.map_nil] at hJ
  have hK := f_Keywords
  repeat' (first | ((with_reducible refine wcm ?_); first | refine cF (hT1) ?_ | refine cF (hT2) ?_ | refine cF (hT3) ?_ | refine cF (hT4) ?_ | refine cF (hW) ?_ | refine cF (f_at _ _) ?_ | refine cF (hO1) ?_ | refine cF (hO2) ?_ | refine cF (hT5) ?_ | refine cF (hP) ?_ | refine cF (hJ) ?_ | refine cF (hK) ?_) | refine dr ?_ | (refine ds ?_ ?_ <;> intro hb) | ((with_reducible refine dbm ?_); first | exact db_nil | refine dbc ?_ ?_) | ((with_reducible refine natle ?_); first | assumption | omega | (simp; omega)))
  rw [show (strsD keywords).length = 37 by rw [strsD_length]; rfl]
  exact ⟨rfl, rfl⟩
end Go.Plane
end
section
set_option linter.unusedVariables false
set_option linter.unusedSimpArgs false
set_option maxRecDepth 100000
set_option maxHeartbeats 4000000
namespace Go.Plane
open Go Go.Proofs
attribute [local irreducible] wops wio wic wdt wdb onOut
/-- **LexShapes.** -/
theorem law_Shapes (s : List UInt8) : F Γd 9 [.d (.str s)] (.d (.bool true)) := by
  refine fn_of c9 rfl (by simp only [Env.of, List.zipIdx, List.map]; rfl) ?_
  have hsan := f_sanity
  by_cases hl : 60 < s.length
  · repeat' (first | ((with_reducible refine wcm ?_); first | refine cF (hsan) ?_) | refine dr ?_ | (refine ds ?_ ?_ <;> intro hb) | ((with_reducible refine dbm ?_); first | exact db_nil | refine dbc ?_ ?_) | ((with_reducible refine natle ?_); first | assumption | omega | (simp; omega)))
    all_goals (simp; done)
  · have h1 := f_Shape s (by omega)
    have h2 := r_Shape s (by omega)
    have h3 := f_Value s (by omega)
    have h4 := r_Value s (by omega)
    have h5 := f_Keywords
    have h6 := r_Keywords
    generalize shapeM s = p at *
    generalize valueM s = q at *
    have hk := strsD_length keywords
    have hkl : keywords.length = 37 := rfl
    generalize keywords = kw at *
    repeat' (first | ((with_reducible refine wcm ?_); first | refine cF (h1) ?_ | refine cF (h2) ?_ | refine cF (h3) ?_ | refine cF (h4) ?_ | refine cF (h5) ?_ | refine cF (h6) ?_) | refine dr ?_ | (refine ds ?_ ?_ <;> intro hb) | ((with_reducible refine dbm ?_); first | exact db_nil | refine dbc ?_ ?_) | ((with_reducible refine natle ?_); first | assumption | omega | (simp; omega)))
    refine LP_for kw (fun i _ => [(3, .d (.int .i64 p.1)), (4, .d (.int .i64 p.2)), (5, .ptr 0 0), (6, .d (.int .i64 q.1)), (7, .d (.int .i64 q.2)), (8, .ptr 1 0), (9, .d (.slice (strsD kw))), (10, .d (.slice (strsD kw))), (11, .d (.int .i64 i))])
      (fun _ _ => [.box 73 [.d (.int .i64 p.1), .d (.int .i64 p.2)], .box 33 [.d (.int .i64 q.1), .d (.int .i64 q.2)]]) (fun i (_ : Unit) => True) () ?_ ?_ trivial ?_ ?_
    · (first | (simp [Env.shr, Env.get, PV.exp, PV.ids, PV.ids.idsL]; done) | simp [Env.shr, Env.get, PV.exp, PV.ids, PV.ids.idsL, *])
    · first | rfl | simp [shrink, Ent.exp, PV.exp, PV.ids]
    · rintro i x _ hx hi _ ih
      have hr := strsD_at hx
      have ih := ih () trivial
      repeat' (first | refine dr ?_ | (refine ds ?_ ?_ <;> intro hb) | ((with_reducible refine dbm ?_); first | exact db_nil | refine dbc ?_ ?_) | ((with_reducible refine natle ?_); first | assumption | omega | (simp; omega)))
      refine LP_at ?_ ?_ ih
      · (first | (simp [Env.shr, Env.get, PV.exp, PV.ids, PV.ids.idsL]; done) | simp [Env.shr, Env.get, PV.exp, PV.ids, PV.ids.idsL, *])
      · simp [shrink, Ent.exp, PV.exp, PV.ids]
    · rintro _ _
      repeat' (first | ((with_reducible refine wcm ?_); first | refine cF (hsan) ?_) | refine dr ?_ | (refine ds ?_ ?_ <;> intro hb) | ((with_reducible refine dbm ?_); first | exact db_nil | refine dbc ?_ ?_) | ((with_reducible refine natle ?_); first | assumption | omega | (simp; omega)))
      all_goals (simp; done)
end Go.Plane
end
section
set_option linter.unusedVariables false
set_option linter.unusedSimpArgs false
set_option maxRecDepth 100000
set_option maxHeartbeats 4000000
namespace Go.Plane
open Go Go.Proofs
attribute [local irreducible] wops wio wic wdt wdb onOut
theorem withLF_le (l : List (List UInt8)) (n : Nat) : (withLF (l.take n)).length ≤ (withLF l).length := by
  conv => rhs; rw [← List.take_append_drop n l]
  unfold withLF
  rw [List.flatMap_append, List.length_append]
  omega
theorem withLF_mem {l : List (List UInt8)} {s : List UInt8} (h : s ∈ l) : s.length < (withLF l).length := by
  induction l with
  | nil => cases h
  | cons y l ih =>
    simp only [withLF, List.flatMap_cons, List.length_append, List.length_singleton]
    rcases List.mem_cons.1 h with rfl | h
    · omega
    · have := ih h
      simp only [withLF] at this
      omega
theorem r_Join (l : List (List UInt8)) (hl : l.length ≤ 4294967296) (hs : ∀ s ∈ l, s.length ≤ 1000000000) : F Γd 21 [.d (.slice (strsD l))] (.agg [.str (joinM l).1, .slice (intsD (joinM l).2.1), .int .i64 (joinM l).2.2]) := by
  refine fn_of c21 rfl (by simp only [Env.of, List.zipIdx, List.map]; rfl) ?_
  have hln := strsD_length l
  by_cases h24 : 24 < l.length
  · have h : joinM l = ([], [], 3) := by unfold joinM; rw [if_pos h24]
    rw [h]
    repeat' (first | refine dr ?_ | (refine ds ?_ ?_ <;> intro hb) | ((with_reducible refine dbm ?_); first | exact db_nil | refine dbc ?_ ?_) | ((with_reducible refine natle ?_); first | assumption | omega | (simp; omega)))
    all_goals (simp [intsD]; done)
  have hbig : 20000 < (withLF l).length → joinM l = ([], [], 3) := fun h => by
    unfold joinM
    rw [if_neg h24]
    split
    · rfl
    · first | rfl | rw [if_pos h]
  repeat' (first | refine dr ?_ | (refine ds ?_ ?_ <;> intro hb) | ((with_reducible refine dbm ?_); first | exact db_nil | refine dbc ?_ ?_) | ((with_reducible refine natle ?_); first | assumption | omega | (simp; omega)))
  refine LP_for l (fun i (a : List UInt8 × List Int × Int) => [(0, .d (.slice (strsD l))), (2, .ptr 0 0), (3, .ptr 1 0), (4, .d (.int .i64 a.2.2)), (5, .d (.int .i64 i))])
    (fun i a => [.box 49 [.d (.str []), .snil, .d (.int .i64 0)], .box 49 [.d (.str a.1), .lref 2 a.2.1.length, .d (.int .i64 0)], .lst (3, 1) (intsD a.2.1)])
    (fun i a => a.1 = withLF (l.take i) ∧ a.2.1 = startsM 1 (l.take i) ∧ a.2.2 = afterM 1 (l.take i) ∧ a.1.length ≤ 20000 ∧ a.2.1.length = i ∧ 0 ≤ a.2.2 ∧ a.2.2 ≤ 1 + i * 20001) ([], [], 1) ?_ ?_ ⟨rfl, rfl, rfl, by simp, rfl, by decide, by decide⟩ ?_ ?_
  · (first | (simp [Env.shr, Env.get, PV.exp, PV.ids, PV.ids.idsL]; done) | simp [Env.shr, Env.get, PV.exp, PV.ids, PV.ids.idsL, *])
  · first | rfl | simp [shrink, Ent.exp, PV.exp, PV.ids, intsD]
  · rintro i x ⟨u, ns, n⟩ hx hi ⟨h1, h2, h3, h4, h5, h6, h7⟩ ih
    simp only at h1 h2 h3 h4 h5 h6 h7
    have hrx := strsD_at hx
    have hxs := hs x (List.mem_of_getElem? hx)
    have htk : l.take (i + 1) = l.take i ++ [x] := by rw [List.take_add_one, hx]; rfl
    have hi24 : i ≤ 24 := by omega
    have hw : withLF (l.take (i + 1)) = u ++ (x ++ [10]) := by rw [htk, h1]; simp [withLF]
    have h10 : ([10] : List UInt8).length = 1 := rfl
    have hux : (u ++ x).length = u.length + x.length := List.length_append
    by_cases hb : 20000 < u.length + x.length + 1
    · have h := hbig (by have := withLF_le l (i + 1); rw [hw] at this; simp at this; omega)
      rw [h]
      clear h1 h2 h3 htk hw ih hbig hs
      repeat' (first | refine dr ?_ | (refine ds ?_ ?_ <;> intro hb) | ((with_reducible refine dbm ?_); first | exact db_nil | refine dbc ?_ ?_) | ((with_reducible refine natle ?_); first | assumption | omega | (simp; omega)))
      all_goals (simp [intsD]; done)
    · have hli := r_lines x (by omega)
      have hsl : (strsD (splitL 10 x)).length = x.count 10 + 1 := by rw [strsD_length, splitL_length]
      have hcn : x.count 10 ≤ x.length := List.count_le_length
      have hll := intsD_len ns
      have hil : (intsD ns).length = i := by rw [intsD_length]; exact h5
      have ih := ih (u ++ x ++ [10], ns ++ [n], n + ((x.count 10 + 1 : Nat) : Int)) ⟨by simp only; rw [hw, List.append_assoc], by simp only; rw [htk, startsM_snoc, ← h2, ← h3], by simp only; rw [htk, afterM_snoc, ← h3]; push_cast; omega, by simp; omega, by simp; omega, by simp only; omega, by simp only; push_cast; omega⟩
      clear h1 h2 h3 htk hw hbig hs
      repeat' (first | ((with_reducible refine wcm ?_); first | refine cF (hli) ?_) | refine dr ?_ | (refine ds ?_ ?_ <;> intro hb) | ((with_reducible refine dbm ?_); first | exact db_nil | refine dbc ?_ ?_) | ((with_reducible refine natle ?_); first | assumption | omega | (simp; omega)))
      refine LP_at ?_ ?_ ih
      · (first | (simp [Env.shr, Env.get, PV.exp, PV.ids, PV.ids.idsL]; done) | simp [Env.shr, Env.get, PV.exp, PV.ids, PV.ids.idsL, *])
      · simp [shrink, Ent.exp, PV.exp, PV.ids, intsD] <;> omega
  · rintro ⟨u, ns, n⟩ ⟨h1, h2, h3, h4, h5, h6, h7⟩
    simp only at h1 h2 h3 h4 h5 h6 h7
    rw [List.take_length] at h1 h2 h3
    have h : joinM l = (u, ns, 0) := by
      unfold joinM
      rw [if_neg h24, if_neg, if_neg (by rw [← h1]; omega), ← h1, ← h2]
      rw [Bool.not_eq_true, List.any_eq_false]
      intro s hs'
      have := withLF_mem hs'
      rw [← h1] at this
      simp
      omega
    rw [h]
    have ht : (intsD ns).take l.length = intsD ns := List.take_of_length_le (by rw [intsD_length]; omega)
    clear h h1 h2 h3 hbig hs
    repeat' (first | refine dr ?_ | (refine ds ?_ ?_ <;> intro hb) | ((with_reducible refine dbm ?_); first | exact db_nil | refine dbc ?_ ?_) | ((with_reducible refine natle ?_); first | assumption | omega | (simp; omega)))
    all_goals (simp [ht]; done)
end Go.Plane
end
section
set_option linter.unusedVariables false
set_option linter.unusedSimpArgs false
set_option maxRecDepth 100000
set_option maxHeartbeats 4000000
namespace Go.Plane
open Go Go.Proofs
attribute [local irreducible] wops wio wic wdt wdb onOut
/-- **LexPlaces.** -/
theorem law_Places (s : List UInt8) (p1 p2 off a b : Int) (x : List UInt8) (l : List (List UInt8)) : F Γd 3 [.d (.str s), .agg [.int .i64 p1, .int .i64 p2], .d (.int .i64 off), .agg [.int .i64 a, .int .i64 b, .str x], .d (.slice (strsD l))] (.d (.bool true)) := by
  refine fn_of c3 rfl (by simp only [Env.of, List.zipIdx, List.map]; rfl) ?_
  have hsan := f_sanity
  have hsh := f_short s
  have hk := strsD_length l
  cases hsm : shortM s with
  | false =>
    rw [hsm] at hsh
    repeat' (first | ((with_reducible refine wcm ?_); first | refine cF (hsh) ?_ | refine cF (hsan) ?_) | refine dr ?_ | (refine ds ?_ ?_ <;> intro hb) | ((with_reducible refine dbm ?_); first | exact db_nil | refine dbc ?_ ?_) | ((with_reducible refine natle ?_); first | assumption | omega | (simp; omega)))
    all_goals (simp; done)
  | true =>
    rw [hsm] at hsh
    have hsl : s.length ≤ 20100 := by unfold shortM at hsm; have := of_decide_eq_true hsm; omega
    by_cases hx : 21000 < x.length
    · repeat' (first | ((with_reducible refine wcm ?_); first | refine cF (hsh) ?_ | refine cF (hsan) ?_) | refine dr ?_ | (refine ds ?_ ?_ <;> intro hb) | ((with_reducible refine dbm ?_); first | exact db_nil | refine dbc ?_ ?_) | ((with_reducible refine natle ?_); first | assumption | omega | (simp; omega)))
      all_goals (simp; done)
    by_cases hl : 30 < l.length
    · repeat' (first | ((with_reducible refine wcm ?_); first | refine cF (hsh) ?_ | refine cF (hsan) ?_) | refine dr ?_ | (refine ds ?_ ?_ <;> intro hb) | ((with_reducible refine dbm ?_); first | exact db_nil | refine dbc ?_ ?_) | ((with_reducible refine natle ?_); first | assumption | omega | (simp; omega)))
      all_goals (simp; done)
    repeat' (first | ((with_reducible refine wcm ?_); first | refine cF (hsh) ?_) | refine dr ?_ | (refine ds ?_ ?_ <;> intro hb) | ((with_reducible refine dbm ?_); first | exact db_nil | refine dbc ?_ ?_) | ((with_reducible refine natle ?_); first | assumption | omega | (simp; omega)))
    refine LP_for l (fun i _ => [(0, .d (.str s)), (2, .d (.int .i64 off)), (4, .d (.slice (strsD l))), (6, .ptr 0 0), (8, .ptr 1 0), (11, .d (.int .i64 i))])
      (fun _ _ => [.box 23 [.d (.int .i64 p1), .d (.int .i64 p2)], .box 25 [.d (.int .i64 a), .d (.int .i64 b), .d (.str x)]]) (fun i (_ : Unit) => ∀ y ∈ l.take i, y.length ≤ 900) () ?_ ?_ (by simp) ?_ ?_
    · (first | (simp [Env.shr, Env.get, PV.exp, PV.ids, PV.ids.idsL]; done) | simp [Env.shr, Env.get, PV.exp, PV.ids, PV.ids.idsL, *])
    · first | rfl | simp [shrink, Ent.exp, PV.exp, PV.ids]
    · rintro i y _ hy hi hI ih
      have hr := strsD_at hy
      by_cases h9 : 900 < y.length
      · clear ih
        repeat' (first | ((with_reducible refine wcm ?_); first | refine cF (hsan) ?_) | refine dr ?_ | (refine ds ?_ ?_ <;> intro hb) | ((with_reducible refine dbm ?_); first | exact db_nil | refine dbc ?_ ?_) | ((with_reducible refine natle ?_); first | assumption | omega | (simp; omega)))
        all_goals (simp; done)
      · have ih := ih () (fun z hz => by
          rw [List.take_add_one, hy, List.mem_append] at hz
          rcases hz with hz | hz
          · exact hI z hz
          · simp at hz; subst hz; omega)
        clear hI
        repeat' (first | refine dr ?_ | (refine ds ?_ ?_ <;> intro hb) | ((with_reducible refine dbm ?_); first | exact db_nil | refine dbc ?_ ?_) | ((with_reducible refine natle ?_); first | assumption | omega | (simp; omega)))
        refine LP_at ?_ ?_ ih
        · (first | (simp [Env.shr, Env.get, PV.exp, PV.ids, PV.ids.idsL]; done) | simp [Env.shr, Env.get, PV.exp, PV.ids, PV.ids.idsL, *])
        · simp [shrink, Ent.exp, PV.exp, PV.ids]
    · rintro _ hI
      rw [List.take_length] at hI
      have c1 := f_Offset s p1 p2 (by omega)
      have c2 := r_Offset s p1 p2 (by omega)
      have c3 := f_PlaceOf s off (by omega)
      have c4 := r_PlaceOf s off (by omega)
      have c5 := f_Edit s a b x (by omega) (by omega)
      have c6 := r_Edit s a b x (by omega) (by omega)
      have c7 := f_Join l (by omega) (fun y hy => by have := hI y hy; omega)
      have c8 := r_Join l (by omega) (fun y hy => by have := hI y hy; omega)
      generalize offsetM s p1 p2 = o at *
      generalize placeOfM s off = q at *
      generalize editM s a b x = e at *
      have hjl : (joinM l).2.1.length ≤ 4294967296 := by
        unfold joinM
        split
        · simp
        · split
          · simp
          · split
            · simp
            · simp only [startsM_len]; omega
      generalize joinM l = j at *
      have hji := intsD_length j.2.1
      clear hI hsm
      repeat' (first | ((with_reducible refine wcm ?_); first | refine cF (c1) ?_ | refine cF (c2) ?_ | refine cF (c3) ?_ | refine cF (c4) ?_ | refine cF (c5) ?_ | refine cF (c6) ?_ | refine cF (c7) ?_ | refine cF (c8) ?_) | refine dr ?_ | (refine ds ?_ ?_ <;> intro hb) | ((with_reducible refine dbm ?_); first | exact db_nil | refine dbc ?_ ?_) | ((with_reducible refine natle ?_); first | assumption | omega | (simp; omega)))
      refine LP_for j.2.1 (fun i _ => [(12, .d (.int .i64 o.1)), (13, .d (.int .i64 o.2)), (14, .ptr 2 0), (15, .ptr 3 0), (16, .d (.int .i64 q.2)), (17, .ptr 4 0), (18, .d (.str e.1)), (19, .d (.int .i64 e.2)), (20, .ptr 5 0), (22, .d (.slice (intsD j.2.1))), (24, .ptr 6 0), (25, .d (.int .i64 i))])
        (fun _ _ => [.box 23 [.d (.int .i64 p1), .d (.int .i64 p2)], .box 25 [.d (.int .i64 a), .d (.int .i64 b), .d (.str x)], .box 33 [.d (.int .i64 o.1), .d (.int .i64 o.2)], .box 23 [.d (.int .i64 q.1.1), .d (.int .i64 q.1.2)], .box 38 [.d (.int .i64 q.1.1), .d (.int .i64 q.1.2), .d (.int .i64 q.2)], .box 43 [.d (.str e.1), .d (.int .i64 e.2)], .box 49 [.d (.str j.1), .d (.slice (intsD j.2.1)), .d (.int .i64 j.2.2)]]) (fun _ (_ : Unit) => True) () ?_ ?_ trivial ?_ ?_
      · (first | (simp [Env.shr, Env.get, PV.exp, PV.ids, PV.ids.idsL]; done) | simp [Env.shr, Env.get, PV.exp, PV.ids, PV.ids.idsL, *])
      · first | rfl | simp [shrink, Ent.exp, PV.exp, PV.ids]
      · rintro i y _ hy hi _ ih
        have hr : (intsD j.2.1)[i]? = some [.int .i64 y] := by simp [intsD, hy]
        have ih := ih () trivial
        repeat' (first | refine dr ?_ | (refine ds ?_ ?_ <;> intro hb) | ((with_reducible refine dbm ?_); first | exact db_nil | refine dbc ?_ ?_) | ((with_reducible refine natle ?_); first | assumption | omega | (simp; omega)))
        refine LP_at ?_ ?_ ih
        · (first | (simp [Env.shr, Env.get, PV.exp, PV.ids, PV.ids.idsL]; done) | simp [Env.shr, Env.get, PV.exp, PV.ids, PV.ids.idsL, *])
        · simp [shrink, Ent.exp, PV.exp, PV.ids]
      · rintro _ _
        repeat' (first | ((with_reducible refine wcm ?_); first | refine cF (hsan) ?_) | refine dr ?_ | (refine ds ?_ ?_ <;> intro hb) | ((with_reducible refine dbm ?_); first | exact db_nil | refine dbc ?_ ?_) | ((with_reducible refine natle ?_); first | assumption | omega | (simp; omega)))
        all_goals (simp; done)
end Go.Plane
end
section
set_option linter.unusedVariables false
set_option linter.unusedSimpArgs false
namespace Go.Plane
open Go Go.Proofs
/-! ### A scan, without its clock -/
theorem pieceM_pos {a : Int} {b : UInt8} {r : List UInt8} (h : (pieceM a b r).1.e = 0) : 0 < (pieceM a b r).2 := by
  unfold pieceM at h ⊢
  split
  · split <;> simp
  · rename_i h1
    rw [if_neg h1] at h
    split
    · rename_i h2; exact h2.1
    · rename_i h2
      rw [if_neg h2] at h
      simp only at h ⊢
      split at h
      · cases h
      · omega
theorem scanF_fuel : ∀ (f g i : Nat) (s : List UInt8), s.length ≤ f → s.length ≤ g → scanF f i s = scanF g i s
  | 0, g, i, s, hf, _ => by
    have : s = [] := List.eq_nil_of_length_eq_zero (by omega)
    subst this; rw [scan_nil, scan_nil]
  | f + 1, 0, i, s, _, hg => by
    have : s = [] := List.eq_nil_of_length_eq_zero (by omega)
    subst this; rw [scan_nil, scan_nil]
  | f + 1, g + 1, i, [], _, _ => rfl
  | f + 1, g + 1, i, b :: r, hf, hg => by
    simp only [List.length_cons] at hf hg
    simp only [scanF]
    split
    · exact scanF_fuel f g _ _ (by omega) (by omega)
    · congr 1
      split
      · rfl
      · rename_i he
        have hp := pieceM_pos (a := i) (b := b) (r := r) (by simpa using he)
        exact scanF_fuel f g _ _ (by simp; omega) (by simp; omega)
def scan (i : Nat) (s : List UInt8) : List Pc := scanF s.length i s
theorem scanM_eq (s : List UInt8) : scanM s = scan 0 s := rfl
theorem scan_nil' (i : Nat) : scan i [] = [] := rfl
theorem scan_blank (i : Nat) (r : List UInt8) : scan i (32 :: r) = scan (i + 1) r := by
  simp [scan, scanF]
theorem scan_err {i : Nat} {b : UInt8} {r : List UInt8} (hb : b ≠ 32) (he : (pieceM i b r).1.e ≠ 0) : scan i (b :: r) = [(pieceM i b r).1] := by
  simp only [scan, List.length_cons, scanF, if_neg hb, if_pos he]
theorem scan_ok {i : Nat} {b : UInt8} {r : List UInt8} (hb : b ≠ 32) (he : (pieceM i b r).1.e = 0) : scan i (b :: r) = (pieceM i b r).1 :: scan (i + (pieceM i b r).2) ((b :: r).drop (pieceM i b r).2) := by
  have hp := pieceM_pos he
  simp only [scan, List.length_cons, scanF, if_neg hb]
  rw [if_neg (by simp [he])]
  congr 1
  exact scanF_fuel _ _ _ _ (by simp; omega) (by simp)
/-- What holds at the end, behind a blank, at an error, and behind a piece. -/
theorem scan_ind {P : Nat → List UInt8 → Prop} (h0 : ∀ i : Nat, P i []) (h1 : ∀ (i : Nat) r, P (i + 1) r → P i (32 :: r)) (h2 : ∀ (i : Nat) b r, b ≠ 32 → (pieceM i b r).1.e ≠ 0 → P i (b :: r))
    (h3 : ∀ (i : Nat) b r, b ≠ 32 → (pieceM i b r).1.e = 0 → P (i + (pieceM i b r).2) ((b :: r).drop (pieceM i b r).2) → P i (b :: r)) : ∀ i s, P i s := by
  have : ∀ n i (s : List UInt8), s.length < n → P i s := by
    intro n
    induction n with
    | zero => intro i s h; omega
    | succ n ih =>
      intro i s hn
      cases s with
      | nil => exact h0 i
      | cons b r =>
        simp only [List.length_cons] at hn
        by_cases hb : b = 32
        · subst hb; exact h1 i r (ih _ _ (by omega))
        · by_cases he : (pieceM i b r).1.e = 0
          · have hp := pieceM_pos he
            exact h3 i b r hb he (ih _ _ (by simp; omega))
          · exact h2 i b r hb he
  exact fun i s => this (s.length + 1) i s (by omega)

/-! ### One piece -/
theorem prefix_take {u v : List UInt8} (h : u.isPrefixOf v = true) : v.take u.length = u := by
  obtain ⟨w, rfl⟩ := List.isPrefixOf_iff_prefix.1 h
  simp
theorem signM_prefix (s : List UInt8) : s.take (signM s).length = signM s := by
  unfold signM
  cases h : signs.find? (fun x => x.isPrefixOf s) with
  | none => simp
  | some x => exact prefix_take (u := x) (v := s) (by have := List.find?_some h; exact this)
theorem piece_text {a : Int} {b : UInt8} {r : List UInt8} (h : (pieceM a b r).1.e = 0) : (pieceM a b r).1.s = (b :: r).take (pieceM a b r).2 ∧ (pieceM a b r).1.a = a := by
  unfold pieceM at h ⊢
  split
  · rename_i h1
    rw [if_pos h1] at h
    split
    · rename_i h2; rw [if_pos h2] at h; cases h
    · simp
  · rename_i h1
    rw [if_neg h1] at h
    split
    · simp
    · rename_i h2
      simp only
      exact ⟨(signM_prefix _).symm, trivial⟩
theorem piece_len {a : Int} {b : UInt8} {r : List UInt8} (h : (pieceM a b r).1.e = 0) : (pieceM a b r).1.s.length = (pieceM a b r).2 := by
  rw [(piece_text h).1, List.length_take_of_le (pieceM_len a b r)]
theorem shapeM_ne6 (s : List UInt8) : (shapeM s).1 ≠ 6 := by
  unfold shapeM
  split
  · simp
  · split
    · split <;> simp
    · split
      · unfold wordM
        split
        · simp
        · split
          · simp
          · split
            · simp
            · split
              · simp
              · split <;> simp
      · split <;> simp
theorem shape_sign {s : List UInt8} (h : s ∈ signs) : shapeM s = (5, 0) := by
  have : ∀ x ∈ signs, shapeM x = (5, 0) := by decide +kernel
  exact this s h
/-- A piece of no error is a comment, or right. -/
theorem piece_right {a : Int} {b : UInt8} {r : List UInt8} (h : (pieceM a b r).1.e = 0) :
    ((pieceM a b r).1.k = 6 ∧ (pieceM a b r).1.s = b :: r ∧ (pieceM a b r).2 = (b :: r).length ∧ [45, 45].isPrefixOf (b :: r) = true) ∨ ((pieceM a b r).1.k ≠ 6 ∧ shapeM (pieceM a b r).1.s = ((pieceM a b r).1.k, 0) ∧ [45, 45].isPrefixOf (b :: r) = false) := by
  unfold pieceM at h ⊢
  split
  · rename_i h1
    rw [if_pos h1] at h
    split
    · rename_i h2; rw [if_pos h2] at h; cases h
    · left; exact ⟨rfl, rfl, rfl, h1⟩
  · rename_i h1
    rw [if_neg h1] at h
    right
    split
    · rename_i h2
      rw [if_pos h2] at h
      simp only at h ⊢
      exact ⟨shapeM_ne6 _, by rw [← h], by rw [Bool.eq_false_iff]; exact h1⟩
    · rename_i h2
      rw [if_neg h2] at h
      simp only at h ⊢
      have hne : signM (b :: r) ≠ [] := by
        intro h0
        rw [h0] at h
        simp at h
      have hm := (signM_mem rfl hne).1
      exact ⟨by decide, shape_sign hm, by rw [Bool.eq_false_iff]; exact h1⟩

/-! ### Moved -/
def Pc.mv (d : Int) (p : Pc) : Pc := { p with a := p.a + d }
theorem pieceM_mv (a d : Int) (b : UInt8) (r : List UInt8) : pieceM (a + d) b r = ((pieceM a b r).1.mv d, (pieceM a b r).2) := by
  unfold pieceM
  split
  · split
    · simp only [Pc.mv]; congr 2; omega
    · rfl
  · split <;> rfl
theorem scan_mv (d : Nat) : ∀ (i : Nat) s, scan (i + d) s = (scan i s).map (Pc.mv d) := by
  refine scan_ind (fun i => rfl) (fun i r ih => ?_) (fun i b r hb he => ?_) (fun i b r hb he ih => ?_)
  · rw [scan_blank, scan_blank, ← ih, Nat.add_right_comm]
  · have hp : pieceM ((i + d : Nat) : Int) b r = ((pieceM i b r).1.mv d, (pieceM i b r).2) := by rw [← pieceM_mv]; push_cast; rfl
    rw [scan_err hb he, scan_err hb (by rw [hp]; exact he), hp]; rfl
  · have hp : pieceM ((i + d : Nat) : Int) b r = ((pieceM i b r).1.mv d, (pieceM i b r).2) := by rw [← pieceM_mv]; push_cast; rfl
    rw [scan_ok hb he, scan_ok hb (by rw [hp]; exact he), hp]
    simp only [List.map_cons]
    rw [← ih, Nat.add_right_comm]

/-! ### Where the pieces stand -/
theorem scan_from : ∀ (i : Nat) s, ∀ p ∈ scan i s, (i : Int) ≤ p.a := fun i s p hp => (scanF_at _ _ _ p hp).1
theorem scan_sorted : ∀ (i : Nat) s, (scan i s).Pairwise fun p q => p.a + (p.s.length : Int) ≤ q.a ∧ p.a < q.a := by
  refine scan_ind (fun i => ?_) (fun i r ih => ?_) (fun i b r hb he => ?_) (fun i b r hb he ih => ?_)
  · rw [scan_nil']; exact .nil
  · rw [scan_blank]; exact ih
  · rw [scan_err hb he]; exact List.pairwise_singleton _ _
  · rw [scan_ok hb he]
    refine List.pairwise_cons.2 ⟨fun q hq => ?_, ih⟩
    have h1 := scan_from _ _ q hq
    have h2 := pieceM_pos he
    rw [(piece_text he).2, piece_len he]
    push_cast at h1
    omega
/-- Each piece of no error stands where it says. -/
theorem scan_text : ∀ (i : Nat) s, ∀ p ∈ scan i s, p.e = 0 → ∃ n : Nat, p.a = (i + n : Nat) ∧ p.s <+: s.drop n ∧ p.s ≠ [] ∧ n + p.s.length ≤ s.length := by
  refine scan_ind (fun i => ?_) (fun i r ih => ?_) (fun i b r hb he => ?_) (fun i b r hb he ih => ?_)
  · rw [scan_nil']; intro p hp; cases hp
  · rw [scan_blank]
    intro p hp h0
    obtain ⟨n, h1, h2, h3, h4⟩ := ih p hp h0
    exact ⟨n + 1, by rw [h1]; omega, by simpa using h2, h3, by simp only [List.length_cons]; omega⟩
  · rw [scan_err hb he]
    intro p hp h0
    rw [List.mem_singleton] at hp
    subst hp
    exact absurd h0 he
  · rw [scan_ok hb he]
    intro p hp h0
    rcases List.mem_cons.1 hp with rfl | hp
    · have h2 := pieceM_pos he
      have h3 := piece_len he
      have h4 := pieceM_len i b r
      refine ⟨0, by rw [(piece_text he).2]; simp, ?_, fun h => ?_, by omega⟩
      · rw [(piece_text he).1]; exact List.take_prefix _ _
      · rw [h] at h3; simp at h3; omega
    · obtain ⟨n, h1, h2, h3, h4⟩ := ih p hp h0
      refine ⟨(pieceM i b r).2 + n, by rw [h1]; omega, by rwa [List.drop_drop] at h2, h3, ?_⟩
      have := pieceM_len i b r
      rw [List.length_drop] at h4
      omega
/-- Each piece of no error is a comment, or right. -/
theorem scan_right : ∀ (i : Nat) s, ∀ p ∈ scan i s, p.e = 0 → p.k ≠ 6 → shapeM p.s = (p.k, 0) := by
  refine scan_ind (fun i => ?_) (fun i r ih => ?_) (fun i b r hb he => ?_) (fun i b r hb he ih => ?_)
  · rw [scan_nil']; intro p hp; cases hp
  · rw [scan_blank]; exact ih
  · rw [scan_err hb he]
    intro p hp h0
    rw [List.mem_singleton] at hp
    subst hp
    exact absurd h0 he
  · rw [scan_ok hb he]
    intro p hp h0 h6
    rcases List.mem_cons.1 hp with rfl | hp
    · rcases piece_right he with h | h
      · exact absurd h.1 h6
      · exact h.2.1
    · exact ih p hp h0 h6

/-! ### All lines -/
def allToks (want : Int → Bool) : Int → List (List UInt8) → List Tok
  | _, [] => []
  | l, s :: ls => keptOf want l (scanM s) ++ allToks want (l + 1) ls
def firstErr : Int → List (List UInt8) → Option (Int × Int × Int)
  | _, [] => none
  | l, s :: ls => match errOf (scanM s) with
    | some p => some (l, 1 + p.a, p.e)
    | none => firstErr (l + 1) ls
theorem readM_eq (want : Int → Bool) : ∀ (ls : List (List UInt8)) (l : Int) (acc : List Tok), readM want l ls acc = match firstErr l ls with
    | some e => ([], e)
    | none => (acc ++ allToks want l ls, 0, 0, 0)
  | [], l, acc => by simp [readM, firstErr, allToks]
  | s :: ls, l, acc => by
    simp only [readM, firstErr, allToks]
    cases errOf (scanM s) with
    | some p => rfl
    | none => simp only; rw [readM_eq want ls (l + 1)]; simp only [List.append_assoc]
theorem allToks_append (want : Int → Bool) : ∀ (a b : List (List UInt8)) (l : Int), allToks want l (a ++ b) = allToks want l a ++ allToks want (l + a.length) b
  | [], b, l => by simp [allToks]
  | s :: a, b, l => by
    simp only [List.cons_append, allToks, allToks_append want a b, List.length_cons, List.append_assoc]
    rw [show l + 1 + (a.length : Int) = l + ((a.length + 1 : Nat) : Int) by push_cast; omega]
theorem firstErr_append : ∀ (a b : List (List UInt8)) (l : Int), firstErr l (a ++ b) = (firstErr l a).or (firstErr (l + a.length) b)
  | [], b, l => by simp [firstErr]
  | s :: a, b, l => by
    simp only [List.cons_append, firstErr]
    cases errOf (scanM s) with
    | some p => rfl
    | none =>
      simp only
      rw [firstErr_append a b, List.length_cons, show l + 1 + (a.length : Int) = l + ((a.length + 1 : Nat) : Int) by push_cast; omega]
theorem keptOf_shift (want : Int → Bool) (l d : Int) (ps : List Pc) : keptOf want (l + d) ps = (keptOf want l ps).map (shiftT d) := by
  simp only [keptOf, List.map_map]
  rfl
theorem allToks_shift (want : Int → Bool) (d : Int) : ∀ (ls : List (List UInt8)) (l : Int), allToks want (l + d) ls = (allToks want l ls).map (shiftT d)
  | [], _ => rfl
  | s :: ls, l => by
    simp only [allToks, List.map_append, keptOf_shift]
    rw [show l + d + 1 = l + 1 + d by omega, allToks_shift want d ls]
theorem firstErr_shift (d : Int) : ∀ (ls : List (List UInt8)) (l : Int), firstErr (l + d) ls = (firstErr l ls).map fun e => (e.1 + d, e.2)
  | [], _ => rfl
  | s :: ls, l => by
    simp only [firstErr]
    cases errOf (scanM s) with
    | some p => rfl
    | none => simp only; rw [show l + d + 1 = l + 1 + d by omega, firstErr_shift d ls]
theorem allToks_len (want : Int → Bool) : ∀ (ls : List (List UInt8)) (l : Int), (allToks want l ls).length ≤ (ls.map List.length).sum
  | [], _ => by simp [allToks]
  | s :: ls, l => by
    have h1 := keptOf_len want l (scanM s)
    have h2 := scanM_len s
    have h3 := allToks_len want ls (l + 1)
    simp only [allToks, List.length_append, List.map_cons, List.sum_cons]
    omega
theorem keptOf_line {want : Int → Bool} {l : Int} {ps : List Pc} {t : Tok} (h : t ∈ keptOf want l ps) : t.l = l ∧ ∃ p ∈ ps, want p.k = true ∧ t = tokOf l p := by
  simp only [keptOf, List.mem_map, List.mem_filter] at h
  obtain ⟨p, ⟨h1, h2⟩, rfl⟩ := h
  exact ⟨rfl, p, h1, h2, rfl⟩
theorem allToks_mem (want : Int → Bool) : ∀ (ls : List (List UInt8)) (l : Int) (t : Tok), t ∈ allToks want l ls → ∃ (j : Nat) (x : List UInt8), ls[j]? = some x ∧ t ∈ keptOf want (l + j) (scanM x)
  | [], _, _, h => by cases h
  | s :: ls, l, t, h => by
    rcases List.mem_append.1 h with h | h
    · exact ⟨0, s, rfl, by simpa using h⟩
    · obtain ⟨j, x, h1, h2⟩ := allToks_mem want ls (l + 1) t h
      exact ⟨j + 1, x, by simpa using h1, by rw [show l + ((j + 1 : Nat) : Int) = l + 1 + j by push_cast; omega]; exact h2⟩
theorem firstErr_none {ls : List (List UInt8)} {l : Int} (h : firstErr l ls = none) : ∀ x ∈ ls, errOf (scanM x) = none := by
  induction ls generalizing l with
  | nil => simp
  | cons s ls ih =>
    simp only [firstErr] at h
    cases he : errOf (scanM s) with
    | some p => rw [he] at h; cases h
    | none =>
      rw [he] at h
      intro x hx
      rcases List.mem_cons.1 hx with rfl | hx
      · exact he
      · exact ih h x hx
theorem errOf_none {ps : List Pc} (h : errOf ps = none) : ∀ p ∈ ps, p.e = 0 := by
  intro p hp
  have := List.find?_eq_none.1 h p hp
  simpa using this
theorem tokensM_small {s : List UInt8} (h : s.length ≤ 6000) : tokensM s = readM isTok 1 (splitL 10 s) [] := by
  unfold tokensM
  rw [if_neg (by omega), if_neg]
  rintro ⟨_, h2⟩
  have h3 := readM_len isTok (splitL 10 s) 1 []
  have h4 := splitL_sum 10 s
  simp only [List.length_nil] at h3
  omega
theorem splitL_no (c : UInt8) : ∀ (s : List UInt8), ∀ x ∈ splitL c s, c ∉ x
  | [] => by simp [splitL]
  | b :: s => by
    have ih := splitL_no c s
    unfold splitL
    split
    · intro x hx
      rcases List.mem_cons.1 hx with rfl | hx
      · simp
      · exact ih x hx
    · rename_i hb
      cases he : splitL c s with
      | nil => exact absurd he (splitL_ne c s)
      | cons y r =>
        rw [he] at ih
        intro x hx
        rcases List.mem_cons.1 hx with rfl | hx
        · simp only [List.mem_cons, not_or]
          exact ⟨fun h => hb h.symm, ih y (by simp)⟩
        · exact ih x (by simp [hx])
theorem splitL_one {c : UInt8} {s : List UInt8} (h : c ∉ s) : splitL c s = [s] := splitL_none c s (fun b hb he => h (he ▸ hb))
/-- The tokens of a line by itself. -/
theorem tokensM_line {x : List UInt8} (h : 10 ∉ x) (hl : x.length ≤ 6000) : tokensM x = match firstErr 1 [x] with
    | some e => ([], e)
    | none => (allToks isTok 1 [x], 0, 0, 0) := by
  rw [tokensM_small hl, splitL_one h, readM_eq]
  rfl
end Go.Plane
end

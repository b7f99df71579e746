/- A part of the proof: the calculus over pure values, contracts of functions, and plain lemmas. -/
import Derived.Test.YtccejlonkoafgaaGreatDoorW4
import Derived.Test.YtccejlonkoafgaaGreatDoorW3
import Derived.Shelf.RegionOpenPlain
import Derived.WalkKit
import Derived.Lib.Builder
import Derived.Lib.UnsafeStr
import Derived.Laws.Externs
import Derived.Shelf.Strings.Builder1
import Derived.Laws.RangeString
import Derived.Laws.RangeAny
import Derived.Test.YtccejlonkoafgaaGreatDoorW2
section
set_option linter.unusedVariables false
set_option linter.unusedSimpArgs false
set_option maxRecDepth 100000
set_option maxHeartbeats 2000000
namespace Go.Plane
open Go Go.Proofs
theorem r_Edit (s : List UInt8) (a b : Int) (x : List UInt8) (hs : s.length ≤ 4294967296) (hx : x.length ≤ 4294967296) :
    F Γz 35 [.d (.str s), .agg [.int .i64 a, .int .i64 b, .str x]] (.agg [.str (editM s a b x).1, .int .i64 (editM s a b x).2]) := by
  refine fn_of c35 rfl (by simp only [Env.of, List.zipIdx, List.map]; rfl) ?_
  have e1 : (s.take a.toNat).length ≤ s.length := by simp; omega
  have e2 : (s.take a.toNat ++ x).length ≤ s.length + x.length := by simp; omega
  have e3 : (s.drop b.toNat).length ≤ s.length := by simp
  repeat' (first | refine dr ?_ | (refine ds ?_ ?_ <;> intro hb) | ((with_reducible refine dbm ?_); first | exact db_nil | refine dbc ?_ ?_) | ((with_reducible refine natle ?_); first | assumption | omega | (simp; omega)))
  all_goals simp [editM, *]
theorem r_Offset (s : List UInt8) (l c : Int) (hs : s.length ≤ 1000000000) : F Γz 64 [.d (.str s), .agg [.int .i64 l, .int .i64 c]] (aggI (offsetM s l c)) := by
  refine fn_of c64 rfl (by simp only [Env.of, List.zipIdx, List.map]; rfl) ?_
  have hS := r_lines s hs
  have hlen := strsD_length (splitL 10 s)
  have hall := strsD_len (splitL 10 s)
  have hcnt : (splitL 10 s).length ≤ s.length + 1 := by rw [splitL_length]; have := List.count_le_length (a := (10 : UInt8)) (l := s); omega
  by_cases hl1 : l < 1
  · have hm : offsetM s l c = (0, 1) := by unfold offsetM; rw [if_pos (.inl hl1)]
    repeat' (first | ((with_reducible refine wcm ?_); first | refine cF (hS) ?_) | refine dr ?_ | (refine ds ?_ ?_ <;> intro hb) | ((with_reducible refine dbm ?_); first | exact db_nil | refine dbc ?_ ?_) | ((with_reducible refine natle ?_); first | assumption | omega | (simp; omega)))
    all_goals simp [hm, aggI]
  have hmax : max 0 (l - 1) = l - 1 := by omega
  cases hx : (splitL 10 s)[(l - 1).toNat]? with
  | none =>
    have hn := List.getElem?_eq_none_iff.1 hx
    have hm : offsetM s l c = (0, 1) := by unfold offsetM; rw [if_pos]; omega
    repeat' (first | ((with_reducible refine wcm ?_); first | refine cF (hS) ?_) | refine dr ?_ | (refine ds ?_ ?_ <;> intro hb) | ((with_reducible refine dbm ?_); first | exact db_nil | refine dbc ?_ ?_) | ((with_reducible refine natle ?_); first | assumption | omega | (simp; omega)))
    all_goals simp [hm, aggI]
  | some x =>
    have hn := (List.getElem?_eq_some_iff.1 hx).1
    have hy := strsD_at hx
    have hxl : x.length ≤ s.length := splitL_le 10 s x (List.mem_of_getElem? hx)
    by_cases hc : l < 1 ∨ ((splitL 10 s).length : Int) < l ∨ c < 1 ∨ (x.length : Int) + 1 < c
    · have hm : offsetM s l c = (0, 1) := by unfold offsetM; rw [hx, Option.getD_some, if_pos hc]
      repeat' (first | ((with_reducible refine wcm ?_); first | refine cF (hS) ?_) | refine dr ?_ | (refine ds ?_ ?_ <;> intro hb) | ((with_reducible refine dbm ?_); first | exact db_nil | refine dbc ?_ ?_) | ((with_reducible refine natle ?_); first | assumption | omega | (simp; omega)))
      all_goals simp [hm, aggI]
    have hok : offsetM s l c = (c - 1 + bytesM ((splitL 10 s).take (l - 1).toNat), 0) := by unfold offsetM; rw [hx, Option.getD_some, if_neg hc]
    repeat' (first | ((with_reducible refine wcm ?_); first | refine cF (hS) ?_) | refine dr ?_ | (refine ds ?_ ?_ <;> intro hb) | ((with_reducible refine dbm ?_); first | exact db_nil | refine dbc ?_ ?_) | ((with_reducible refine natle ?_); first | assumption | omega | (simp; omega)))
    have hle := bytesM_take_le (splitL 10 s)
    have hsp := bytesM_split 10 s
    have htl : ((splitL 10 s).take (l - 1).toNat).length = (l - 1).toNat := List.length_take_of_le (by omega)
    refine LP_for ((splitL 10 s).take (l - 1).toNat) (fun i n => [(3, .ptr 0 0), (4, .ptr 1 0), (5, .d (.slice (strsD (splitL 10 s)))), (6, .d (.int .i64 n)), (7, .d (.int .i64 i))])
      (fun _ _ => [.box 28 [.d (.int .i64 l), .d (.int .i64 c)], .box 112 [.d (.int .i64 0), .d (.int .i64 0)]]) (fun i n => n = c - 1 + bytesM (((splitL 10 s).take (l - 1).toNat).take i)) (c - 1) rfl rfl (by simp [bytesM]) ?_ ?_
    · rintro i y n hi hlt rfl ih
      have hi' : (splitL 10 s)[i]? = some y := by rw [List.getElem?_take] at hi; split at hi; exact hi; cases hi
      have hy := strsD_at hi'
      have hb := bytesM_take_le ((splitL 10 s).take (l - 1).toNat) i
      have hb2 := hle (l - 1).toNat
      have hb3 := bytesM_nonneg (((splitL 10 s).take (l - 1).toNat).take i)
      have hyl : y.length ≤ s.length := splitL_le 10 s y (List.mem_of_getElem? hi')
      clear hx hok
      repeat' (first | refine dr ?_ | (refine ds ?_ ?_ <;> intro hb) | ((with_reducible refine dbm ?_); first | exact db_nil | refine dbc ?_ ?_) | ((with_reducible refine natle ?_); first | assumption | omega | (simp; omega)))
      refine LP_at ?_ ?_ (ih _ rfl)
      · rw [bytesM_take_succ hi]
        simp [Env.shr, Env.get, PV.exp, PV.ids, PV.ids.idsL]
        omega
      · simp [shrink, Ent.exp, PV.exp, PV.ids]
    · rintro n rfl
      rw [List.take_length]
      repeat' (first | refine dr ?_ | (refine ds ?_ ?_ <;> intro hb) | ((with_reducible refine dbm ?_); first | exact db_nil | refine dbc ?_ ?_) | ((with_reducible refine natle ?_); first | assumption | omega | (simp; omega)))
      simp [hok, aggI]
end Go.Plane
end
section
set_option linter.unusedVariables false
namespace Go.Proofs
open Go.Shelf Go.RowKit
set_option maxHeartbeats 1000000
set_option maxRecDepth 100000
theorem Tryz.bcells : (Tryz.prog.info? 93).map (·.size) = some 2 := by kernel_rfl
theorem Tryz.blies : liesAt Tryz.prog Tryz.prog.depth 93 (2 / Tryz.prog.cellsOf 93) 0 93 1 = true := by kernel_rfl
theorem Tryz.copyCheck_used (b : Nat) (w : World) (h0 : w.cell? ⟨b, 0, none⟩ = some (.pointer (some ⟨b, 0, none⟩))) :
    Calls Tryz.prog 83 #[.pointer (some ⟨b, 0, none⟩)] w fun e w' => e = .returned (.tuple #[]) ∧ w' = w := by
  obtain ⟨j, hj, _⟩ := Option.map_eq_some_iff.1 Tryz.bcells
  go_enter Tryz.func83, Tryz.ntmps83
  go_wp2
  rw [Lib.run_neq_ptr_same w _ Tryz.underlying90 hj]
  go_wp2
  go_end0
  exact ⟨rfl, rfl⟩
theorem Tryz.copyCheck_fresh (b : Nat) (w : World) (h0 : w.cell? ⟨b, 0, none⟩ = some (.pointer none)) (hsh : w.shape? b = some (93, 2)) (hfz : w.frozen? ⟨b, 0, none⟩ = false) :
    Calls Tryz.prog 83 #[.pointer (some ⟨b, 0, none⟩)] w fun e w' => e = .returned (.tuple #[]) ∧ w' = w.setCell ⟨b, 0, none⟩ (.pointer (some ⟨b, 0, none⟩)) := by
  obtain ⟨j, hj, hjs⟩ := Option.map_eq_some_iff.1 Tryz.bcells
  go_enter Tryz.func83, Tryz.ntmps83
  go_wp2
  rw [Lib.run_to_unsafe w ⟨b, 0, none⟩ Tryz.underlying90 Tryz.underlying147 hj (by rw [hjs]; decide) hsh (Nat.zero_lt_succ 1)]
  simp only [Result.andThen]
  rw [Oper.upon_value]
  go_wp2
  rw [run_callFunc_extern Tryz.func111 (by kernel_rfl) (by kernel_rfl) (by kernel_rfl) (e := Extern.AbiNoEscape.same) (by kernel_rfl)]
  rw [Lib.run_noEscape]
  simp only [Result.andThen]
  rw [Oper.upon_value]
  go_wp2
  rw [Lib.run_from_unsafe w ⟨b, 0, none⟩ Tryz.underlying147 Tryz.underlying90 hj hsh Tryz.blies]
  simp only [Result.andThen]
  rw [Oper.upon_value]
  go_wp2
  go_end0
  exact ⟨rfl, rfl⟩
end Go.Proofs
end
section
set_option linter.unusedVariables false
namespace Go.Proofs
open Go.Shelf Go.RowKit
variable {P : Program} {ρ : Ren}
/-- Nothing but the marks of one block's cells, and what is new. -/
structure Froze (w w' : World) (g : Option Nat) (n : Nat) : Prop where
  os : w'.os = w.os
  tape : w'.tape = w.tape
  output : w'.output = w.output
  size : w.heap.size ≤ w'.heap.size
  keep : ∀ k, k < w.heap.size → g ≠ some k → w'.heap[k]? = w.heap[k]?
  here : ∀ k c e f, g = some k → w.heap[k]? = some (.cells c e f) → ∃ f', w'.heap[k]? = some (.cells c e f') ∧ f'.2 ≤ max f.2 n
theorem Froze.drew {w : World} (n : Nat) : Froze w w.drew none n := ⟨rfl, rfl, rfl, Nat.le_refl _, fun _ _ _ => rfl, fun _ _ _ _ h => by cases h⟩
theorem Froze.alloc {w w' : World} {g : Option Nat} {n : Nat} (h : Froze w w' g n) (o : Obj) : Froze w (w'.alloc o) g n := by
  have key : ∀ k, k < w'.heap.size → (w'.alloc o).heap[k]? = w'.heap[k]? := fun k hk => Plane.heap_push_old w' o hk
  refine ⟨h.os, h.tape, h.output, Nat.le_trans h.size (by rw [Plane.size_alloc']; omega), fun k hk hg => (key k (Nat.lt_of_lt_of_le hk h.size)).trans (h.keep k hk hg), fun k c e f hg hk => ?_⟩
  obtain ⟨f', h1, h2⟩ := h.here k c e f hg hk
  exact ⟨f', (key k (Array.getElem?_eq_some_iff.1 h1).1).trans h1, h2⟩
theorem Froze.freeze {w : World} (g n : Nat) : Froze w (w.drew.freeze ⟨g, 0, none⟩ n) (some g) n := by
  unfold World.freeze
  split
  · exact ⟨rfl, rfl, rfl, Nat.le_refl _, fun _ _ _ => rfl, fun k c e f _ hk => ⟨f, hk, Nat.le_max_left _ _⟩⟩
  · refine ⟨rfl, rfl, rfl, Nat.le_of_eq (Array.size_modify (xs := w.drew.heap) ..).symm, fun k hk hg => ?_, fun k c e f hg hk => ?_⟩
    · simp only [Array.getElem?_modify]
      rw [if_neg (fun he => hg (by rw [he]))]
      rfl
    · cases hg
      simp only [Array.getElem?_modify, if_true]
      rw [show w.drew.heap[g]? = w.heap[g]? from rfl, hk]
      obtain ⟨lo, hi⟩ := f
      simp only [Option.map_some]
      split
      · exact ⟨_, rfl, by simp; omega⟩
      · exact ⟨_, rfl, by simp⟩

set_option maxHeartbeats 1000000 in
set_option maxRecDepth 100000 in
theorem Any.Builder_String_exact (L : Lays.n169 P ρ) (X : Builder.Extra P ρ) (b g cap : Nat) (cur : Array Value) (p : Value) (l : List UInt8) (w : World) (h0 : l ≠ [])
    (hbk : w.heap[b]? = some (.cells #[p, .slice (some ⟨g, 0, none⟩) l.length cap] (ρ.t 72) (0, 0))) (f : Nat × Nat) (hg : w.heap[g]? = some (.cells cur (ρ.t 5) f)) (hc : l.length ≤ cap) (hcs : l.length ≤ cur.size) (hm : l.length ≤ maxLen)
    (hcell : ∀ (j : Nat) (x : UInt8), l[j]? = some x → w.cell? ⟨g, j, none⟩ = some (.int .u8 x.toNat)) :
    Calls P (ρ.f 169) #[.pointer (some ⟨b, 0, none⟩)] w fun e w' => e = .returned (.string ⟨l.toArray⟩) ∧ Froze w w' (some g) l.length := by
  have hl0 : l.length ≠ 0 := by simpa using h0
  have c1 : w.drew.cell? ⟨b, 1, none⟩ = some (.slice (some ⟨g, 0, none⟩) l.length cap) := by
    have : w.drew.heap[b]? = some (.cells #[p, .slice (some ⟨g, 0, none⟩) l.length cap] (ρ.t 72) (0, 0)) := hbk
    rw [Lib.cell_of_heap this]; rfl
  have hSD : (Builtin.unsafeSliceData_ #[(ρ.t 37)] (ρ.t 127) #[.slice (some ⟨g, 0, none⟩) l.length cap]).run P w.drew = .ok (.pointer (some ⟨g, 0, none⟩)) w.drew :=
    Lib.run_unsafeSliceData_row _ _ _ _ _ _ (by omega)
  have hUS : (Builtin.unsafeString_ #[(ρ.t 127), (ρ.t 3)] (ρ.t 9) #[.pointer (some ⟨g, 0, none⟩), .int .i64 l.length]).run P w.drew = .ok (.string ⟨l.toArray⟩) (w.drew.freeze ⟨g, 0, none⟩ l.length) := by
    refine Lib.run_unsafeString_row w.drew (ρ.t 127) (ρ.t 3) (ρ.t 9) (ρ.t 5) L.t127 X.cellsByte g cur.size (by have hg' : w.drew.heap[g]? = some (.cells cur (ρ.t 5) f) := hg; simp [World.shape?, hg']) l h0 (by omega) (by unfold maxLen at hm; omega) ?_
    intro j x hx
    have := hcell j x hx
    rw [Addr.add_mid, Nat.zero_add]
    exact this
  have hfz := Froze.freeze (w := w) g l.length
  have mixed := L.mixed
  have t72 := L.t72; have a72 := L.a72; have z72 := L.z72; have v72 := L.v72; have u72 := run_underlying L.t72
  have t70 := L.t70; have a70 := L.a70; have z70 := L.z70; have v70 := L.v70; have u70 := run_underlying L.t70
  have t37 := L.t37; have a37 := L.a37; have z37 := L.z37; have v37 := L.v37; have u37 := run_underlying L.t37
  have t127 := L.t127; have a127 := L.a127; have z127 := L.z127; have v127 := L.v127; have u127 := run_underlying L.t127
  have t3 := L.t3; have a3 := L.a3; have z3 := L.z3; have v3 := L.v3; have u3 := run_underlying L.t3
  have t9 := L.t9; have a9 := L.a9; have z9 := L.z9; have v9 := L.v9; have u9 := run_underlying L.t9
  have t5 := X.t5; have a5 := X.a5; have z5 := X.z5; have v5 := X.v5; have u5 := run_underlying X.t5
  clear hcell hg hbk hc hcs hm
  go_enter L.f169, Body.n169_ntmps ρ
  go_wp2
  go_region_o
  all_goals (go_wp2; go_ret; exact ⟨rfl, hfz⟩)
end Go.Proofs
end
section
set_option linter.unusedVariables false
namespace Go.Plane
open Go Go.Proofs Go.RowKit
section
variable {Γ : Cfg} {M : Mem} {ρ : List Gh} {σ : Store} {w w' : World}

theorem froze_shape {g : Option Nat} {n : Nat} (hf : Froze w w' g n) (hc : ∀ k, g = some k → ∃ c e f, w.heap[k]? = some (.cells c e f)) (b : Nat) (s : TypeId × Nat) (hs : w.shape? b = some s) : w'.shape? b = some s := by
  have hlt : b < w.heap.size := by
    rcases Nat.lt_or_ge b w.heap.size with h1 | h1
    · exact h1
    · simp [World.shape?, Array.getElem?_eq_none h1] at hs
  by_cases hb : g = some b
  · obtain ⟨c, e, f, h0⟩ := hc b hb
    obtain ⟨f', h1, _⟩ := hf.here b c e f hb h0
    unfold World.shape? at hs ⊢
    rw [h0] at hs
    rw [h1]
    exact hs
  · unfold World.shape? at hs ⊢
    rw [hf.keep b hlt hb]
    exact hs
theorem froze_cell {g : Option Nat} {n : Nat} (hf : Froze w w' g n) (hc : ∀ k, g = some k → ∃ c e f, w.heap[k]? = some (.cells c e f)) {b o : Nat} {v : Value} (h : w.cell? ⟨b, o, none⟩ = some v) : w'.cell? ⟨b, o, none⟩ = some v := by
  have hlt : b < w.heap.size := by
    rcases Nat.lt_or_ge b w.heap.size with h1 | h1
    · exact h1
    · simp [World.cell?, Array.getElem?_eq_none h1] at h
  by_cases hb : g = some b
  · obtain ⟨c, e, f, h0⟩ := hc b hb
    obtain ⟨f', h1, _⟩ := hf.here b c e f hb h0
    unfold World.cell? at h ⊢
    rw [h0] at h
    rw [h1]
    exact h
  · unfold World.cell? at h ⊢
    rw [hf.keep b hlt hb]
    exact h

/-- A list's first cells are marked. -/
theorem stp_froze (h : Rel Γ M ρ σ w) {g : Option Nat} {n : Nat} (hf : Froze w w' g n)
    (hg : ∀ k, g = some k → ∃ (i : Nat) (sz : TypeId × Nat) (xs : List (List D)) (a : Addr) (cap : Nat), σ[i]? = some (.lst sz xs) ∧ ρ[i]? = some (.cur (.slice (some a) xs.length cap)) ∧ a.block = k ∧ n ≤ xs.length * sz.2) :
    Stp Γ M ρ σ w M ρ σ w' := by
  have hc : ∀ k, g = some k → ∃ c e f, w.heap[k]? = some (.cells c e f) := fun k hk => by
    obtain ⟨i, sz, xs, a, cap, h1, h2, h3, h4⟩ := hg k hk
    obtain ⟨v, k1, k2, k3, k4⟩ := h.lst i sz xs h1
    rw [h2] at k1
    cases k1
    obtain ⟨b, o, vs, e, f, ha, hh, _⟩ := k4 _ _ _ rfl (.inr (by simp))
    cases ha
    exact ⟨vs, e, f, by rw [← h3]; exact hh⟩
  have hin : ∀ k, g = some k → k ∈ blks ρ := fun k hk => by
    obtain ⟨i, sz, xs, a, cap, h1, h2, h3, h4⟩ := hg k hk
    exact mem_blks.2 ⟨i, _, h2, by simp [Gh.block, h3]⟩
  refine ⟨⟨hf.os, hf.tape, hf.output, hf.size, fun b hb hn => hf.keep b hb (fun he => hn (hin b he)), Mem.le_refl M, fun b o v h1 h2 => (by rw [h1] at h2; cases h2), froze_shape hf hc⟩,
    ⟨h.gl, fun b o v hm => froze_cell hf hc (h.mem b o v hm), h.len, fun i ty cs hi => ?_, fun i sz xs hi => ?_, h.inj⟩, fun b hb => .inl hb, fun i => Tr.refl ρ σ i⟩
  · obtain ⟨b, vs, e, h1, h2, h3, h4, h5⟩ := h.box i ty cs hi
    refine ⟨b, vs, e, h1, ?_, h3, h4, h5⟩
    rw [hf.keep b (Array.getElem?_eq_some_iff.1 h2).1 (fun he => ?_)]
    · exact h2
    · obtain ⟨j, sz, xs, a, cap, k1, k2, k3, k4⟩ := hg b he
      have hij : i ≠ j := fun e => by subst e; rw [hi] at k1; cases k1
      exact h.inj i j _ _ b hij h1 k2 rfl (by simp [Gh.block, k3])
  · obtain ⟨v, h1, h2, h3, h4⟩ := h.lst i sz xs hi
    refine ⟨v, h1, h2, h3, fun a m cap hv hlt => ?_⟩
    obtain ⟨b, o, vs, e, f, ha, hh, h0, h5, h6⟩ := h4 a m cap hv hlt
    by_cases hb : g = some b
    · obtain ⟨j, sz', xs', a', cap', k1, k2, k3, k4⟩ := hg b hb
      have hij : i = j := by
        by_cases hij : i = j
        · exact hij
        · exact (h.inj i j _ _ b hij h1 k2 (by subst hv ha; simp [Gh.block]) (by simp [Gh.block, k3])).elim
      subst hij
      rw [hi] at k1
      cases k1
      rw [h1] at k2
      cases k2
      cases hv
      obtain ⟨f', q1, q2⟩ := hf.here b vs e f hb hh
      refine ⟨b, o, vs, e, f', ha, q1, ⟨?_, h0.2⟩, h5, h6⟩
      have := h0.1
      have h7 := h0.2.1
      subst h7
      simp only [Nat.zero_add] at this ⊢
      omega
    · exact ⟨b, o, vs, e, f, ha, by rw [hf.keep b (Array.getElem?_eq_some_iff.1 hh).1 hb]; exact hh, h0, h5, h6⟩
end
end Go.Plane
end
section
set_option linter.unusedVariables false
namespace Go.Proofs
open Go.Shelf Go.RowKit
variable {P : Program} {ρ : Ren}
set_option maxHeartbeats 2000000 in
set_option maxRecDepth 100000 in
theorem Any.Builder_String_nil_x (L : Lays.n169 P ρ) (X : Builder.Extra P ρ) (b : Nat) (p : Value) (w : World) (hbk : w.heap[b]? = some (.cells #[p, .slice none 0 0] (ρ.t 72) (0, 0))) :
    Calls P (ρ.f 169) #[.pointer (some ⟨b, 0, none⟩)] w fun e w' => e = .returned (.string ⟨#[]⟩) ∧ Froze w w' none 0 := by
  have hUS := Any.unsafeString_none L X
  have c1 : w.drew.cell? ⟨b, 1, none⟩ = some (.slice none 0 0) := by
    have : w.drew.heap[b]? = some (.cells #[p, .slice none 0 0] (ρ.t 72) (0, 0)) := hbk
    rw [Lib.cell_of_heap this]; rfl
  have hSD : (Builtin.unsafeSliceData_ #[(ρ.t 37)] (ρ.t 127) #[.slice none 0 0]).run P w.drew = .ok (.pointer none) w.drew := rfl
  have mixed := L.mixed
  have t72 := L.t72; have a72 := L.a72; have z72 := L.z72; have v72 := L.v72; have u72 := run_underlying L.t72
  have t70 := L.t70; have a70 := L.a70; have z70 := L.z70; have v70 := L.v70; have u70 := run_underlying L.t70
  have t37 := L.t37; have a37 := L.a37; have z37 := L.z37; have v37 := L.v37; have u37 := run_underlying L.t37
  have t127 := L.t127; have a127 := L.a127; have z127 := L.z127; have v127 := L.v127; have u127 := run_underlying L.t127
  have t3 := L.t3; have a3 := L.a3; have z3 := L.z3; have v3 := L.v3; have u3 := run_underlying L.t3
  have t9 := L.t9; have a9 := L.a9; have z9 := L.z9; have v9 := L.v9; have u9 := run_underlying L.t9
  have t5 := X.t5; have a5 := X.a5; have z5 := X.z5; have v5 := X.v5; have u5 := run_underlying X.t5
  go_enter L.f169, Body.n169_ntmps ρ
  go_wp2
  go_region_o
  all_goals (go_wp2; go_ret; exact ⟨rfl, Froze.drew 0⟩)

set_option maxHeartbeats 2000000 in
set_option maxRecDepth 100000 in
theorem Any.Builder_String_noroom_x (L : Lays.n169 P ρ) (X : Builder.Extra P ρ) (b g : Nat) (p : Value) (cur : Array Value) (w : World) (hbk : w.heap[b]? = some (.cells #[p, .slice (some ⟨g, 0, none⟩) 0 0] (ρ.t 72) (0, 0))) (fz : Nat × Nat) (hg : w.heap[g]? = some (.cells cur (ρ.t 5) fz)) :
    Calls P (ρ.f 169) #[.pointer (some ⟨b, 0, none⟩)] w fun e w' => e = .returned (.string ⟨#[]⟩) ∧ Froze w w' none 0 := by
  have hUS := Any.unsafeString_none L X
  have hlt : b < w.heap.size := by
    rcases Nat.lt_or_ge b w.heap.size with h' | h'
    · exact h'
    · simp [Array.getElem?_eq_none h'] at hbk
  have c1 : w.drew.cell? ⟨b, 1, none⟩ = some (.slice (some ⟨g, 0, none⟩) 0 0) := by
    have : w.drew.heap[b]? = some (.cells #[p, .slice (some ⟨g, 0, none⟩) 0 0] (ρ.t 72) (0, 0)) := hbk
    rw [Lib.cell_of_heap this]; rfl
  have hSD : (Builtin.unsafeSliceData_ #[(ρ.t 37)] (ρ.t 127) #[.slice (some ⟨g, 0, none⟩) 0 0]).run P w.drew = .ok (.pointer (some ⟨w.drew.heap.size, 0, none⟩)) (w.drew.alloc (.view ⟨g, 0, none⟩ (ρ.t 5))) :=
    Lib.run_unsafeSliceData_zero w.drew _ _ (ρ.t 5) L.t127 ⟨g, 0, none⟩ 0 ((ρ.t 5), cur.size) (by have hg' : w.drew.heap[g]? = some (.cells cur (ρ.t 5) fz) := hg; simp [World.shape?, hg'])
  have c2 : (w.drew.alloc (.view ⟨g, 0, none⟩ (ρ.t 5))).cell? ⟨b, 1, none⟩ = some (.slice (some ⟨g, 0, none⟩) 0 0) := by
    have : (w.drew.alloc (.view ⟨g, 0, none⟩ (ρ.t 5))).heap[b]? = _ := (Lib.alloc_old w.drew _ b hlt).trans hbk
    rw [Lib.cell_of_heap this]; rfl
  have c3 : (w.alloc (.view ⟨g, 0, none⟩ (ρ.t 5))).drew.cell? ⟨b, 1, none⟩ = some (.slice (some ⟨g, 0, none⟩) 0 0) := c2
  have c0 : w.cell? ⟨b, 1, none⟩ = some (.slice (some ⟨g, 0, none⟩) 0 0) := c1
  have mixed := L.mixed
  have t72 := L.t72; have a72 := L.a72; have z72 := L.z72; have v72 := L.v72; have u72 := run_underlying L.t72
  have t70 := L.t70; have a70 := L.a70; have z70 := L.z70; have v70 := L.v70; have u70 := run_underlying L.t70
  have t37 := L.t37; have a37 := L.a37; have z37 := L.z37; have v37 := L.v37; have u37 := run_underlying L.t37
  have t127 := L.t127; have a127 := L.a127; have z127 := L.z127; have v127 := L.v127; have u127 := run_underlying L.t127
  have t3 := L.t3; have a3 := L.a3; have z3 := L.z3; have v3 := L.v3; have u3 := run_underlying L.t3
  have t9 := L.t9; have a9 := L.a9; have z9 := L.z9; have v9 := L.v9; have u9 := run_underlying L.t9
  have t5 := X.t5; have a5 := X.a5; have z5 := X.z5; have v5 := X.v5; have u5 := run_underlying X.t5
  go_enter L.f169, Body.n169_ntmps ρ
  go_wp2
  go_region_o
  all_goals (go_wp2; go_ret; exact ⟨rfl, (Froze.drew 0).alloc _⟩)

set_option maxHeartbeats 2000000 in
set_option maxRecDepth 100000 in
theorem Any.Builder_String_room_x (L : Lays.n169 P ρ) (X : Builder.Extra P ρ) (b g cap : Nat) (p : Value) (w : World) (hc0 : cap ≠ 0) (hbk : w.heap[b]? = some (.cells #[p, .slice (some ⟨g, 0, none⟩) 0 cap] (ρ.t 72) (0, 0))) :
    Calls P (ρ.f 169) #[.pointer (some ⟨b, 0, none⟩)] w fun e w' => e = .returned (.string ⟨#[]⟩) ∧ Froze w w' none 0 := by
  have hUS := Any.unsafeString_none L X
  have c1 : w.drew.cell? ⟨b, 1, none⟩ = some (.slice (some ⟨g, 0, none⟩) 0 cap) := by
    have : w.drew.heap[b]? = some (.cells #[p, .slice (some ⟨g, 0, none⟩) 0 cap] (ρ.t 72) (0, 0)) := hbk
    rw [Lib.cell_of_heap this]; rfl
  have hSD : (Builtin.unsafeSliceData_ #[(ρ.t 37)] (ρ.t 127) #[.slice (some ⟨g, 0, none⟩) 0 cap]).run P w.drew = .ok (.pointer (some ⟨g, 0, none⟩)) w.drew :=
    Lib.run_unsafeSliceData_row _ _ _ _ _ _ hc0
  clear hc0
  have mixed := L.mixed
  have t72 := L.t72; have a72 := L.a72; have z72 := L.z72; have v72 := L.v72; have u72 := run_underlying L.t72
  have t70 := L.t70; have a70 := L.a70; have z70 := L.z70; have v70 := L.v70; have u70 := run_underlying L.t70
  have t37 := L.t37; have a37 := L.a37; have z37 := L.z37; have v37 := L.v37; have u37 := run_underlying L.t37
  have t127 := L.t127; have a127 := L.a127; have z127 := L.z127; have v127 := L.v127; have u127 := run_underlying L.t127
  have t3 := L.t3; have a3 := L.a3; have z3 := L.z3; have v3 := L.v3; have u3 := run_underlying L.t3
  have t9 := L.t9; have a9 := L.a9; have z9 := L.z9; have v9 := L.v9; have u9 := run_underlying L.t9
  have t5 := X.t5; have a5 := X.a5; have z5 := X.z5; have v5 := X.v5; have u5 := run_underlying X.t5
  go_enter L.f169, Body.n169_ntmps ρ
  go_wp2
  go_region_o
  all_goals (go_wp2; go_ret; exact ⟨rfl, Froze.drew 0⟩)
end Go.Proofs
end
section
set_option linter.unusedVariables false
namespace Go.Plane
open Go Go.Proofs Go.RowKit
set_option maxRecDepth 100000

theorem one_arg {M : Mem} {ρ : List Gh} {σ : Store} {vs : List Value} {p : PV} (hl : vs.length = [p].length) (ha : ∀ (j : Nat) (v : Value) (q : PV), vs[j]? = some v → [p][j]? = some q → Rep M ρ σ v q) : ∃ v, vs = [v] ∧ Rep M ρ σ v p := by
  match vs, hl with
  | [v], _ => exact ⟨v, rfl, ha 0 v p rfl rfl⟩
theorem two_cells {vs : Array Value} (h : vs.size = 2) : ∃ a b, vs = #[a, b] := by
  obtain ⟨l⟩ := vs
  match l, h with
  | [a, b], _ => exact ⟨a, b, rfl⟩

theorem T_copyCheck {b : Nat} {c0 c1 : PV} {σ : Store} {Q : Out → Store → Prop} (hb : σ[b]? = some (.box 93 [c0, c1])) (hc : c0 = .nilp ∨ c0 = .ptr b 0)
    (hQ : Q (.ret (.tup [])) (σ.set b (.box 93 [.ptr b 0, c1]))) : T Γz 83 [.ptr b 0] σ Q := by
  refine ⟨by kernel_rfl, fun M ρ w vs hrel hgw hl ha => ?_⟩
  obtain ⟨v, rfl, hv⟩ := one_arg hl ha
  obtain ⟨blk, rfl, hρ⟩ := hv.ptr_inv
  obtain ⟨b', cs, e, h1, h2, h3, h4, h5⟩ := hrel.box b _ _ hb
  rw [hρ] at h1
  cases h1
  obtain ⟨hno, rfl⟩ := h5
  obtain ⟨x0, x1, rfl⟩ := two_cells h3
  have r0 := h4 0 x0 c0 rfl rfl
  have r1 := h4 1 x1 c1 rfl rfl
  rcases hc with rfl | rfl
  · have hx0 : x0 = .pointer none := by cases r0; rfl
    subst hx0
    refine (Tryz.copyCheck_fresh blk w (by simp [World.cell?, h2]) (by simp [World.shape?, h2]) (by simp [World.frozen?, h2])).mono ?_
    rintro e w' ⟨rfl, rfl⟩
    obtain ⟨c', hu, hcs, hcj⟩ := upd_cells [.pointer (some ⟨blk, 0, none⟩)] 0 w _ h2 (by simp)
    have hst := stp_setBox (cs' := [.ptr b 0, c1]) hrel hb hρ hu ⟨_, h2⟩ rfl (by rw [hcs]; rfl) (fun j v p hv hp => by
      rw [hcj] at hv
      match j, hp with
      | 0, hp => simp at hv hp; subst hv hp; exact .ptr b 0 blk hρ
      | 1, hp => simp at hv hp; subst hv hp; exact r1
      | j + 2, hp => simp at hp)
    exact ⟨M, ρ, _, .ret (.tup []), hst, by simp, .tup [] [] rfl (by simp), hQ⟩
  · obtain ⟨blk', hx0, hρ'⟩ := r0.ptr_inv
    rw [hρ] at hρ'
    cases hρ'
    subst hx0
    refine (Tryz.copyCheck_used blk w (by simp [World.cell?, h2])).mono ?_
    rintro e w' ⟨rfl, rfl⟩
    exact ⟨M, ρ, σ, .ret (.tup []), Stp.refl hrel, rfl, .tup [] [] rfl (by simp), by rw [set_self hb] at hQ; exact hQ⟩

/-- The bytes of a list of bytes. -/
def bytesD (l : List UInt8) : List (List D) := l.map fun b => [.int .u8 b.toNat]

theorem T_String {b i : Nat} {c0 : PV} {l : List UInt8} {σ : Store} {Q : Out → Store → Prop} (hb : σ[b]? = some (.box 93 [c0, .lref i l.length])) (hi : σ[i]? = some (.lst (5, 1) (bytesD l)))
    (hQ : Q (.ret (.d (.str l))) σ) : T Γz 57 [.ptr b 0] σ Q := by
  refine ⟨by kernel_rfl, fun M ρ w vs hrel hgw hl ha => ?_⟩
  obtain ⟨v, rfl, hv⟩ := one_arg hl ha
  obtain ⟨blk, rfl, hρ⟩ := hv.ptr_inv
  obtain ⟨b', cs, e, h1, h2, h3, h4, h5⟩ := hrel.box b _ _ hb
  rw [hρ] at h1
  cases h1
  obtain ⟨hno, rfl⟩ := h5
  obtain ⟨x0, x1, rfl⟩ := two_cells h3
  have r1 := h4 1 x1 _ rfl rfl
  obtain ⟨sz, xs, cv, k1, k2, k3⟩ := r1.lref_inv
  rw [hi] at k1
  cases k1
  obtain rfl := k3 (by simp [bytesD])
  obtain ⟨u, q1, q2, q3, q4⟩ := hrel.lst i _ _ hi
  rw [k2] at q1
  cases q1
  obtain ⟨a, n, cap, rfl, hn, hcap, hbd⟩ := q2.slice_inv
  have hnl : n = l.length := by rw [← hn]; simp [bytesD]
  subst hnl
  have fin : ∀ (g : Option Nat) (n : Nat) (e : Ending) (w' : World), (∀ k, g = some k → ∃ a', a = some a' ∧ a'.block = k ∧ n ≤ l.length) → e = .returned (.string ⟨l.toArray⟩) ∧ Froze w w' g n →
      ∃ M' ρ' σ' o, Stp Γz M ρ σ w M' ρ' σ' w' ∧ σ'.length = σ.length ∧ RepOut M' ρ' σ' e o ∧ Q o σ' := by
    rintro g n e w' hg ⟨rfl, hf⟩
    refine ⟨M, ρ, σ, .ret (.d (.str l)), stp_froze hrel hf (fun k hk => ?_), rfl, .d _ _ (.str _ _ (by simp) hbd), hQ⟩
    obtain ⟨a', rfl, h6, h7⟩ := hg k hk
    exact ⟨i, _, _, a', cap, hi, by rw [show (bytesD l).length = l.length by simp [bytesD]]; exact k2, h6, by simpa [bytesD] using h7⟩
  cases a with
  | none =>
    have hl0 : l = [] := by
      cases l with
      | nil => rfl
      | cons x l =>
        obtain ⟨a', n', cap', sz, va, he, _, _, _, _, hcell, _⟩ := q2.slice_parts
        cases he
        obtain ⟨_, _, h6, _⟩ := hcell 0 [.int .u8 x.toNat] 0 _ rfl rfl
        cases h6
    subst hl0
    have hc0 : cap = 0 := by
      rcases Nat.eq_zero_or_pos cap with h6 | h6
      · exact h6
      · obtain ⟨_, _, _, _, _, h7, _⟩ := q4 _ _ _ rfl (.inl h6)
        cases h7
    subst hc0
    exact (Any.Builder_String_nil_x Tryz.lays169 Tryz.Builder_Extra_169 blk x0 w h2).mono fun e w' h => fin none 0 e w' (fun k hk => by cases hk) h
  | some a =>
    obtain ⟨g, o, cur, e, f, he, hh, ⟨hf1, rfl, rfl⟩, hfit, hM0⟩ := q4 _ _ _ rfl (.inr (by simp))
    cases he
    by_cases hl0 : l = []
    · subst hl0
      by_cases hc0 : cap = 0
      · subst hc0
        exact (Any.Builder_String_noroom_x Tryz.lays169 Tryz.Builder_Extra_169 blk g x0 cur w h2 f hh).mono fun e w' h => fin none 0 e w' (fun k hk => by cases hk) h
      · exact (Any.Builder_String_room_x Tryz.lays169 Tryz.Builder_Extra_169 blk g cap x0 w hc0 h2).mono fun e w' h => fin none 0 e w' (fun k hk => by cases hk) h
    · have hcells : ∀ (j : Nat) (x : UInt8), l[j]? = some x → w.cell? ⟨g, j, none⟩ = some (.int .u8 x.toNat) := fun j x hx => by
        obtain ⟨a', n', cap', sz, va, he, hn', _, _, hsz, hcell, hrep⟩ := q2.slice_parts
        cases he
        have hbx : (bytesD l)[j]? = some [.int .u8 x.toNat] := by simp [bytesD, hx]
        have hs1 : sz = 1 := by have := hsz _ (List.mem_of_getElem? hbx); simpa using this.symm
        subst hs1
        obtain ⟨b2, o2, h6, h7⟩ := hcell j _ 0 _ hbx rfl
        cases h6
        have h8 := (hrep j _ 0 _ hbx rfl).int_inv
        rw [h8] at h7
        have := hrel.mem _ _ _ h7
        simpa using this
      refine (Any.Builder_String_exact Tryz.lays169 Tryz.Builder_Extra_169 blk g cap cur x0 l w hl0 h2 f hh hcap (by simp only at hfit; omega) (by unfold maxLen; omega) hcells).mono fun e w' h => fin (some g) l.length e w' (fun k hk => ?_) h
      cases hk
      exact ⟨_, rfl, rfl, Nat.le_refl _⟩
end Go.Plane
end
section
set_option linter.unusedVariables false
set_option linter.unusedSimpArgs false
set_option maxRecDepth 100000
set_option maxHeartbeats 2000000
namespace Go.Plane
open Go Go.Proofs
theorem ft_copy0 {n : Nat} {sz : TypeId × Nat} {xs : List (List D)} : FT Γz 83 [.ptr 0 0] [.box 93 [.nilp, .lref 1 n], .lst sz xs] (.tup []) [.box 93 [.ptr 0 0, .lref 1 n], .lst sz xs] :=
  T_copyCheck rfl (.inl rfl) ⟨rfl, rfl⟩
theorem ft_copy1 {n : Nat} {sz : TypeId × Nat} {xs : List (List D)} : FT Γz 83 [.ptr 0 0] [.box 93 [.ptr 0 0, .lref 1 n], .lst sz xs] (.tup []) [.box 93 [.ptr 0 0, .lref 1 n], .lst sz xs] :=
  T_copyCheck rfl (.inr rfl) ⟨rfl, rfl⟩
/-- A builder that holds bytes: unused, or used. -/
abbrev bld (c : PV) (l : List UInt8) : Store := [.box 93 [c, .lref 1 l.length], .lst (5, 1) (bytesD l)]
theorem bytesD_append (a b : List UInt8) : bytesD (a ++ b) = bytesD a ++ bytesD b := by simp [bytesD]
theorem bytesD_length (a : List UInt8) : (bytesD a).length = a.length := by simp [bytesD]
theorem bytesD_len (a : List UInt8) : ∀ y ∈ a.map (fun b : UInt8 => [D.int .u8 b.toNat]), y.length = 1 := by simp
theorem ft_String (c : PV) (l : List UInt8) : FT Γz 57 [.ptr 0 0] (bld c l) (.d (.str l)) (bld c l) := T_String rfl rfl ⟨rfl, rfl⟩
theorem fn_ft {f : FuncId} {args : List PV} {σ' : Store} {v : PV} {σ0 : Store} {n : Nat} {rs : List RV} {body : IC} {env' : Env} {k : Nat} (hc : chkF Γz.P Γz.E f k ⟨n, rs, body⟩ = true) (hk : args.length = k) (he : Env.of args = env')
    (h : wic Γz body (fnPost rs σ0.length fun o s => o = .ret v ∧ s = σ') env' σ0) : FT Γz f args σ0 v σ' := fn_of hc hk he h
theorem ft_Len (c : PV) (l : List UInt8) (hc : c = .nilp ∨ c = .ptr 0 0) : FT Γz 56 [.ptr 0 0] (bld c l) (.d (.int .i64 l.length)) (bld c l) := by
  have h1 := bytesD_length l
  rcases hc with rfl | rfl
  · unfold bld
    refine fn_ft c56 rfl (by simp only [Env.of, List.zipIdx, List.map]; rfl) ?_
    repeat' (first | refine dr ?_ | (refine ds ?_ ?_ <;> intro hb) | ((with_reducible refine dbm ?_); first | exact db_nil | refine dbc ?_ ?_) | ((with_reducible refine natle ?_); first | assumption | omega | (simp; omega)))
    simp [Ent.exp, PV.exp, PV.ids, List.take_of_length_le, h1]
  · unfold bld
    refine fn_ft c56 rfl (by simp only [Env.of, List.zipIdx, List.map]; rfl) ?_
    repeat' (first | refine dr ?_ | (refine ds ?_ ?_ <;> intro hb) | ((with_reducible refine dbm ?_); first | exact db_nil | refine dbc ?_ ?_) | ((with_reducible refine natle ?_); first | assumption | omega | (simp; omega)))
    simp [Ent.exp, PV.exp, PV.ids, List.take_of_length_le, h1]
theorem ft_WS0 (l s : List UInt8) (hl : l.length + s.length ≤ 1073741824) : FT Γz 55 [.ptr 0 0, .d (.str s)] (bld .nilp l) (.tup [.d (.int .i64 s.length), .nili]) (bld (.ptr 0 0) (l ++ s)) := by
  unfold bld
  refine fn_ft c55 rfl (by simp only [Env.of, List.zipIdx, List.map]; rfl) ?_
  have h1 := bytesD_length l
  have h2 := bytesD_len s
  repeat' (first | ((with_reducible refine wcm ?_); first | refine cT (ft_copy0) ?_ | refine cT (ft_copy1) ?_) | refine dr ?_ | (refine ds ?_ ?_ <;> intro hb) | ((with_reducible refine dbm ?_); first | exact db_nil | refine dbc ?_ ?_) | ((with_reducible refine natle ?_); first | assumption | omega | (simp; omega)))
  simp [Ent.exp, PV.exp, PV.ids, bytesD_append, h1]
  simp [bytesD]
theorem ft_WS1 (l s : List UInt8) (hl : l.length + s.length ≤ 1073741824) : FT Γz 55 [.ptr 0 0, .d (.str s)] (bld (.ptr 0 0) l) (.tup [.d (.int .i64 s.length), .nili]) (bld (.ptr 0 0) (l ++ s)) := by
  unfold bld
  refine fn_ft c55 rfl (by simp only [Env.of, List.zipIdx, List.map]; rfl) ?_
  have h1 := bytesD_length l
  have h2 := bytesD_len s
  repeat' (first | ((with_reducible refine wcm ?_); first | refine cT (ft_copy0) ?_ | refine cT (ft_copy1) ?_) | refine dr ?_ | (refine ds ?_ ?_ <;> intro hb) | ((with_reducible refine dbm ?_); first | exact db_nil | refine dbc ?_ ?_) | ((with_reducible refine natle ?_); first | assumption | omega | (simp; omega)))
  simp [Ent.exp, PV.exp, PV.ids, bytesD_append, h1]
  simp [bytesD]
theorem ft_WB0 (l : List UInt8) (b : UInt8) (hl : l.length < 1073741824) : FT Γz 72 [.ptr 0 0, .d (.int .u8 b.toNat)] (bld .nilp l) .nili (bld (.ptr 0 0) (l ++ [b])) := by
  unfold bld
  refine fn_ft c72 rfl (by simp only [Env.of, List.zipIdx, List.map]; rfl) ?_
  have h1 := bytesD_length l
  repeat' (first | ((with_reducible refine wcm ?_); first | refine cT (ft_copy0) ?_ | refine cT (ft_copy1) ?_) | refine dr ?_ | (refine ds ?_ ?_ <;> intro hb) | ((with_reducible refine dbm ?_); first | exact db_nil | refine dbc ?_ ?_) | ((with_reducible refine natle ?_); first | assumption | omega | (simp; omega)))
  simp [Ent.exp, PV.exp, PV.ids, bytesD_append, h1]
  simp [bytesD]
theorem ft_WB1 (l : List UInt8) (b : UInt8) (hl : l.length < 1073741824) : FT Γz 72 [.ptr 0 0, .d (.int .u8 b.toNat)] (bld (.ptr 0 0) l) .nili (bld (.ptr 0 0) (l ++ [b])) := by
  unfold bld
  refine fn_ft c72 rfl (by simp only [Env.of, List.zipIdx, List.map]; rfl) ?_
  have h1 := bytesD_length l
  repeat' (first | ((with_reducible refine wcm ?_); first | refine cT (ft_copy0) ?_ | refine cT (ft_copy1) ?_) | refine dr ?_ | (refine ds ?_ ?_ <;> intro hb) | ((with_reducible refine dbm ?_); first | exact db_nil | refine dbc ?_ ?_) | ((with_reducible refine natle ?_); first | assumption | omega | (simp; omega)))
  simp [Ent.exp, PV.exp, PV.ids, bytesD_append, h1]
  simp [bytesD]
end Go.Plane
end
section
set_option linter.unusedVariables false
set_option linter.unusedSimpArgs false
set_option maxRecDepth 100000
namespace Go.Plane
open Go Go.Proofs
/-- A byte that must not stand in a comment. -/
def isBad (b : UInt8) : Bool := decide (b.toNat < 32 ∨ 126 < b.toNat)
def badRune (x : Nat) : Bool := decide (x < 32) || decide (126 < x)
theorem f_badRune (x : Nat) (hx : x ≤ 1114111) : F Γz 92 [.d (.int .i32 x)] (.d (.bool (badRune x))) := by
  refine fn_of c92 rfl (by simp only [Env.of, List.zipIdx, List.map]; rfl) ?_
  have h0 : badRune x = (decide ((x : Int) < 32) || decide (126 < (x : Int))) := by
    unfold badRune
    rw [show decide (x < 32) = decide ((x : Int) < 32) by rw [decide_eq_decide]; omega, show decide (126 < x) = decide (126 < (x : Int)) by rw [decide_eq_decide]; omega]
  rw [h0]
  repeat' (first | refine dr ?_ | (refine ds ?_ ?_ <;> intro hb) | ((with_reducible refine dbm ?_); first | exact db_nil | refine dbc ?_ ?_) | ((with_reducible refine natle ?_); first | assumption | omega | (simp; omega)))
  all_goals (simp [*]; done)
def badIdx (s : List UInt8) : Int := match s.findIdx? isBad with
  | some i => i
  | none => -1
theorem idxFrom_bad (s : List UInt8) : ∀ (f pos : Nat), s.length - pos ≤ f → Lib.idxFuncFrom badRune true ⟨s.toArray⟩ f pos = match (s.drop pos).findIdx? isBad with
    | some i => (pos : Int) + i
    | none => -1
  | f, pos, hf => by
    have hsz : (⟨s.toArray⟩ : ByteArray).size = s.length := by simp [ByteArray.size]
    by_cases hp : pos < s.length
    · obtain ⟨f, rfl⟩ : ∃ g, f = g + 1 := ⟨f - 1, by omega⟩
      have hpos : pos < (⟨s.toArray⟩ : ByteArray).size := by rw [hsz]; exact hp
      have hget : (⟨s.toArray⟩ : ByteArray)[pos]'hpos = s[pos] := by simp [ByteArray.getElem_eq_getElem_data]
      rw [List.drop_eq_getElem_cons hp]
      unfold Lib.idxFuncFrom
      rw [if_pos hpos, List.findIdx?_cons]
      rcases Nat.lt_or_ge (s[pos]).toNat 128 with h | h
      · rw [decode_ascii _ _ hpos (by rw [hget]; exact h), hget]
        simp only
        have hb : badRune (s[pos]).toNat = isBad s[pos] := by simp [badRune, isBad]
        rw [hb]
        cases hbad : isBad s[pos] with
        | true => simp
        | false =>
          simp only [Bool.false_eq_true, if_false]
          rw [idxFrom_bad s f (pos + 1) (by omega)]
          cases (s.drop (pos + 1)).findIdx? isBad with
          | none => rfl
          | some i =>
            simp only [Option.map_some]
            push_cast
            show (pos : Int) + 1 + (i : Int) = (pos : Int) + ((i : Int) + 1)
            omega
      · have hd := decode_high ⟨s.toArray⟩ pos hpos (by rw [hget]; exact h)
        have h1 : badRune (Utf8.decode ⟨s.toArray⟩ pos).1 = true := by simp [badRune]; omega
        have h2 : isBad s[pos] = true := by simp [isBad]; omega
        rw [h1, h2]
        simp
    · rw [Lib.idxFuncFrom_end _ _ _ _ _ (by rw [hsz]; exact hp), List.drop_of_length_le (by omega)]
      rfl
theorem f_noteBad (s : List UInt8) : F Γz 91 [.d (.str s), .fn 92 [] []] (.d (.int .i64 (badIdx s))) := by
  have h := F_IndexFunc 92 badRune f_badRune s
  have : Lib.idxFunc badRune true ⟨s.toArray⟩ = badIdx s := by
    unfold Lib.idxFunc badIdx
    rw [idxFrom_bad s _ 0 (by simp [ByteArray.size])]
    simp only [List.drop_zero]
    cases s.findIdx? isBad <;> simp
  rw [this] at h
  exact h

/-- A piece of a line: its kind, its text, at which byte, the error. -/
structure Pc where
  k : Int
  s : List UInt8
  a : Int
  e : Int
def Pc.row (p : Pc) : List D := [.int .i64 p.k, .str p.s, .int .i64 0, .int .i64 0, .int .i64 p.a, .int .i64 p.e]
/-- The piece that begins with no blank, and how many bytes it has. -/
def pieceM (a : Int) (b : UInt8) (r : List UInt8) : Pc × Nat :=
  if [45, 45].isPrefixOf (b :: r) then (if badIdx (b :: r) ≥ 0 then (⟨0, [], a + badIdx (b :: r), 2⟩, (b :: r).length) else (⟨6, b :: r, a, 0⟩, (b :: r).length))
  else if 0 < (List.takeWhile isPart (b :: r)).length ∧ b ≠ 95 then
    (⟨(shapeM ((b :: r).take (List.takeWhile isPart (b :: r)).length)).1, (b :: r).take (List.takeWhile isPart (b :: r)).length, a, (shapeM ((b :: r).take (List.takeWhile isPart (b :: r)).length)).2⟩, (List.takeWhile isPart (b :: r)).length)
  else (⟨5, signM (b :: r), a, if (signM (b :: r)).length = 0 then 2 else 0⟩, (signM (b :: r)).length)
def scanF : Nat → Nat → List UInt8 → List Pc
  | 0, _, _ => []
  | _ + 1, _, [] => []
  | f + 1, i, b :: r => if b = 32 then scanF f (i + 1) r else
    (pieceM i b r).1 :: if (pieceM i b r).1.e ≠ 0 then [] else scanF f (i + (pieceM i b r).2) ((b :: r).drop (pieceM i b r).2)
/-- The pieces of a line, up to the first error. -/
def scanM (s : List UInt8) : List Pc := scanF s.length 0 s
end Go.Plane
end
section
set_option linter.unusedVariables false
namespace Go.Plane
open Go

/-! ### Iterators -/
section
variable {Γ : Cfg} {Y : YSpec Γ.P} {M M' : Mem} {ρ ρ' : List Gh} {σ σ' : Store} {w w' : World}
theorem Rel.noY (h : Rel { Γ with Y := Y } M ρ σ w) : Rel Γ M ρ σ w := ⟨h.gl, h.mem, h.len, h.box, h.lst, h.inj⟩
theorem Rel.inY (h : Rel Γ M ρ σ w) : Rel { Γ with Y := Y } M ρ σ w := ⟨h.gl, h.mem, h.len, h.box, h.lst, h.inj⟩
theorem Stp.inY (h : Stp Γ M ρ σ w M' ρ' σ' w') : Stp { Γ with Y := Y } M ρ σ w M' ρ' σ' w' := ⟨h.ext, h.rel.inY, h.blk, h.tr⟩
theorem T.inY {f : FuncId} {args : List PV} {Q : Out → Store → Prop} (h : T Γ f args σ Q) : T { Γ with Y := Y } f args σ Q :=
  ⟨h.1, fun M ρ w vs hr hg hl ha => (h.2 M ρ w vs hr.noY hg hl ha).mono fun e w' ⟨M', ρ', σ', o, k1, k2⟩ => ⟨M', ρ', σ', o, k1.inY, k2⟩⟩
end

section
variable {Γ : Cfg} {env : Env} {σ : Store} {Q : Ex → Env → Store → Prop}
theorem Iter_run {f : FuncId} {caps : List PV} {xs : List (List D)} {n : Nat} {body : IC} {env' : Nat → Env} {k : Nat} (hc : chkF Γ.P Γ.E f k ⟨n, [], body⟩ = true) (hk : caps.length + 1 = k) (hflat : ∀ x ∈ xs, ∀ d ∈ x, ∀ l, d ≠ .slice l)
    (he : ∀ l, (Env.of (.yl l :: caps)).put 1000000000 (.cnt 0) = env' l)
    (h : ∀ Γ' : Cfg, Γ'.Y.xs = xs → (∀ {f : FuncId} {az : List PV} {v : PV}, F Γ f az v → F Γ' f az v) → wic Γ' body (itPost xs.length) (env' Γ'.Y.l) []) : Iter Γ f caps xs := by
  subst hk
  refine Iter_of hc rfl hflat fun Y hY => ?_
  have := h { Γ with Y := Y } hY (fun hF => T.inY hF)
  rw [← he] at this
  exact this

theorem oy {d l k : Nat} {x y : Opd} {r : List Ac} {cs : List D} (ht : wops Γ r Q ((1000000000, .cnt (k + 1)) :: (d, .d (.bool true)) :: env) σ) (hf : wops Γ r Q ((1000000000, .stp) :: (d, .d (.bool false)) :: env) σ)
    (hx : x.val env = .yl l := by ((try simp only [*, evq, evBin, optInt, intsOf, PV.elems, PV.dc1, PV.dcs, dc1L, fillD, splice, evLoad, Option.map_some, Option.map_none, get_cons, val_t, val_k, val_f, Nat.reduceEqDiff, Nat.succ_ne_self, ↓reduceIte, reduceCtorEq, List.length_cons, List.length_nil, List.take_succ_cons, List.take_zero, List.drop_succ_cons, List.drop_zero, List.append_nil, List.nil_append, List.cons_append, List.getElem?_cons_zero, List.getElem?_cons_succ, List.getElem?_nil, Nat.reduceAdd, Nat.reduceLeDiff, Nat.reduceSub, Nat.reduceMul, Nat.zero_add, and_self, and_true, true_and, List.foldl_cons, List.foldl_nil, shaped, D.isK, eqDs, D.eqv, Bool.and_true, Bool.true_and, decide_true, decide_false, beq_self_eq_true, bne_self_eq_false, List.set_cons_zero, List.set_cons_succ, Env.keep, List.map, eve, elemsD, PV.cellsOf, setCellsP, rvs, RV.get, retOf, expR, PV.argOf, PV.exp, PV.ids, PV.ids.idsL, List.all_nil, shrink, List.take_nil, Int.toNat_natCast, Int.toNat_zero, Int.natCast_nonneg, Int.le_refl, Bool.not_true, Bool.not_false, Ac.dst, Ac.gd]) <;> rfl)) (hy : y.val env = .agg cs := by ((try simp only [*, evq, evBin, optInt, intsOf, PV.elems, PV.dc1, PV.dcs, dc1L, fillD, splice, evLoad, Option.map_some, Option.map_none, get_cons, val_t, val_k, val_f, Nat.reduceEqDiff, Nat.succ_ne_self, ↓reduceIte, reduceCtorEq, List.length_cons, List.length_nil, List.take_succ_cons, List.take_zero, List.drop_succ_cons, List.drop_zero, List.append_nil, List.nil_append, List.cons_append, List.getElem?_cons_zero, List.getElem?_cons_succ, List.getElem?_nil, Nat.reduceAdd, Nat.reduceLeDiff, Nat.reduceSub, Nat.reduceMul, Nat.zero_add, and_self, and_true, true_and, List.foldl_cons, List.foldl_nil, shaped, D.isK, eqDs, D.eqv, Bool.and_true, Bool.true_and, decide_true, decide_false, beq_self_eq_true, bne_self_eq_false, List.set_cons_zero, List.set_cons_succ, Env.keep, List.map, eve, elemsD, PV.cellsOf, setCellsP, rvs, RV.get, retOf, expR, PV.argOf, PV.exp, PV.ids, PV.ids.idsL, List.all_nil, shrink, List.take_nil, Int.toNat_natCast, Int.toNat_zero, Int.natCast_nonneg, Int.le_refl, Bool.not_true, Bool.not_false, Ac.dst, Ac.gd]) <;> rfl)) (hk : env.get 1000000000 = .cnt k := by ((try simp only [*, evq, evBin, optInt, intsOf, PV.elems, PV.dc1, PV.dcs, dc1L, fillD, splice, evLoad, Option.map_some, Option.map_none, get_cons, val_t, val_k, val_f, Nat.reduceEqDiff, Nat.succ_ne_self, ↓reduceIte, reduceCtorEq, List.length_cons, List.length_nil, List.take_succ_cons, List.take_zero, List.drop_succ_cons, List.drop_zero, List.append_nil, List.nil_append, List.cons_append, List.getElem?_cons_zero, List.getElem?_cons_succ, List.getElem?_nil, Nat.reduceAdd, Nat.reduceLeDiff, Nat.reduceSub, Nat.reduceMul, Nat.zero_add, and_self, and_true, true_and, List.foldl_cons, List.foldl_nil, shaped, D.isK, eqDs, D.eqv, Bool.and_true, Bool.true_and, decide_true, decide_false, beq_self_eq_true, bne_self_eq_false, List.set_cons_zero, List.set_cons_succ, Env.keep, List.map, eve, elemsD, PV.cellsOf, setCellsP, rvs, RV.get, retOf, expR, PV.argOf, PV.exp, PV.ids, PV.ids.idsL, List.all_nil, shrink, List.take_nil, Int.toNat_natCast, Int.toNat_zero, Int.natCast_nonneg, Int.le_refl, Bool.not_true, Bool.not_false, Ac.dst, Ac.gd]) <;> rfl)) (hl : l = Γ.Y.l := by rfl) (hxs : Γ.Y.xs[k]? = some cs := by assumption) : wops Γ (.yld (some d) x y :: r) Q env σ := by
  rw [wops]
  simp only [wio]
  rw [hx, hy, show env.get cntT = .cnt k from hk]
  exact ⟨hl, hxs, ht, hf⟩
theorem orf {g : Opd} {p n : Nat} {a b : IC} {gf : FuncId} {caps : List PV} {xs : List (List D)} (hi : Iter Γ gf caps xs) (h : rfK (fun K e s => wic Γ a (Ex.then (fun e s => wic Γ b K ((1000000000, .undef) :: e) s) (fun _ _ _ => False)) e s) Q env n p xs σ)
    (hg : g.val env = .fn gf [] caps := by ((try simp only [*, evq, evBin, optInt, intsOf, PV.elems, PV.dc1, PV.dcs, dc1L, fillD, splice, evLoad, Option.map_some, Option.map_none, get_cons, val_t, val_k, val_f, Nat.reduceEqDiff, Nat.succ_ne_self, ↓reduceIte, reduceCtorEq, List.length_cons, List.length_nil, List.take_succ_cons, List.take_zero, List.drop_succ_cons, List.drop_zero, List.append_nil, List.nil_append, List.cons_append, List.getElem?_cons_zero, List.getElem?_cons_succ, List.getElem?_nil, Nat.reduceAdd, Nat.reduceLeDiff, Nat.reduceSub, Nat.reduceMul, Nat.zero_add, and_self, and_true, true_and, List.foldl_cons, List.foldl_nil, shaped, D.isK, eqDs, D.eqv, Bool.and_true, Bool.true_and, decide_true, decide_false, beq_self_eq_true, bne_self_eq_false, List.set_cons_zero, List.set_cons_succ, Env.keep, List.map, eve, elemsD, PV.cellsOf, setCellsP, rvs, RV.get, retOf, expR, PV.argOf, PV.exp, PV.ids, PV.ids.idsL, List.all_nil, shrink, List.take_nil, Int.toNat_natCast, Int.toNat_zero, Int.natCast_nonneg, Int.le_refl, Bool.not_true, Bool.not_false, Ac.dst, Ac.gd]) <;> rfl)) (hp : (env.get 1000000000).plain = true := by ((simp [get_cons, Env.get, PV.plain]) <;> rfl)) (hc : PV.ids.idsL caps = [] := by rfl) (hn : σ.length = n := by rfl) : wic Γ (.rf g p a b) Q env σ := by
  subst hn
  refine ⟨hp, ?_⟩
  rw [hg]
  exact ⟨hc, xs, hi, h⟩
/-- What is asked at a round's end. -/
def rkK (Q : Ex → Env → Store → Prop) (env : Env) (n : Nat) (Nx : Store → Prop) : Ex → Env → Store → Prop
  | .normal, _, σ => Nx (shrink n σ)
  | .exit i, _, σ => Q (.exit i) env (shrink n σ)
  | .ret, _, σ => Q .ret env (shrink n σ)
  | .panic _, _, _ => False
theorem rk_ret {n : Nat} {Nx : Store → Prop} {e : Env} {σ' : Store} (h : Q .ret env σ') (hs : shrink n σ = σ' := by ((try simp only [*, evq, evBin, optInt, intsOf, PV.elems, PV.dc1, PV.dcs, dc1L, fillD, splice, evLoad, Option.map_some, Option.map_none, get_cons, val_t, val_k, val_f, Nat.reduceEqDiff, Nat.succ_ne_self, ↓reduceIte, reduceCtorEq, List.length_cons, List.length_nil, List.take_succ_cons, List.take_zero, List.drop_succ_cons, List.drop_zero, List.append_nil, List.nil_append, List.cons_append, List.getElem?_cons_zero, List.getElem?_cons_succ, List.getElem?_nil, Nat.reduceAdd, Nat.reduceLeDiff, Nat.reduceSub, Nat.reduceMul, Nat.zero_add, and_self, and_true, true_and, List.foldl_cons, List.foldl_nil, shaped, D.isK, eqDs, D.eqv, Bool.and_true, Bool.true_and, decide_true, decide_false, beq_self_eq_true, bne_self_eq_false, List.set_cons_zero, List.set_cons_succ, Env.keep, List.map, eve, elemsD, PV.cellsOf, setCellsP, rvs, RV.get, retOf, expR, PV.argOf, PV.exp, PV.ids, PV.ids.idsL, List.all_nil, shrink, List.take_nil, Int.toNat_natCast, Int.toNat_zero, Int.natCast_nonneg, Int.le_refl, Bool.not_true, Bool.not_false, Ac.dst, Ac.gd]) <;> rfl)) : rkK Q env n Nx .ret e σ := by subst hs; exact h
theorem rk_exit {n i : Nat} {Nx : Store → Prop} {e : Env} {σ' : Store} (h : Q (.exit i) env σ') (hs : shrink n σ = σ' := by ((try simp only [*, evq, evBin, optInt, intsOf, PV.elems, PV.dc1, PV.dcs, dc1L, fillD, splice, evLoad, Option.map_some, Option.map_none, get_cons, val_t, val_k, val_f, Nat.reduceEqDiff, Nat.succ_ne_self, ↓reduceIte, reduceCtorEq, List.length_cons, List.length_nil, List.take_succ_cons, List.take_zero, List.drop_succ_cons, List.drop_zero, List.append_nil, List.nil_append, List.cons_append, List.getElem?_cons_zero, List.getElem?_cons_succ, List.getElem?_nil, Nat.reduceAdd, Nat.reduceLeDiff, Nat.reduceSub, Nat.reduceMul, Nat.zero_add, and_self, and_true, true_and, List.foldl_cons, List.foldl_nil, shaped, D.isK, eqDs, D.eqv, Bool.and_true, Bool.true_and, decide_true, decide_false, beq_self_eq_true, bne_self_eq_false, List.set_cons_zero, List.set_cons_succ, Env.keep, List.map, eve, elemsD, PV.cellsOf, setCellsP, rvs, RV.get, retOf, expR, PV.argOf, PV.exp, PV.ids, PV.ids.idsL, List.all_nil, shrink, List.take_nil, Int.toNat_natCast, Int.toNat_zero, Int.natCast_nonneg, Int.le_refl, Bool.not_true, Bool.not_false, Ac.dst, Ac.gd]) <;> rfl)) : rkK Q env n Nx (.exit i) e σ := by subst hs; exact h
/-- By what is left to be yielded. -/
theorem rfK_ind {β α : Type} {B : (Ex → Env → Store → Prop) → Env → Store → Prop} {p n : Nat} {σ : Store} (row : β → List D) (S : α → Store) (I : List β → α → Prop) (xs : List β) (a0 : α) (hs : S a0 = σ) (h0 : I xs a0)
    (hend : ∀ a, I [] a → Q .normal env (S a))
    (hstep : ∀ x xs a, I (x :: xs) a → ∀ Nx : Store → Prop, (∀ b σ', I xs b → σ' = S b → Nx σ') → B (rkK Q env n Nx) ((p, .agg (row x)) :: env) (S a)) : rfK B Q env n p (xs.map row) σ := by
  subst hs
  induction xs generalizing a0 with
  | nil => exact hend a0 h0
  | cons x xs ih =>
    simp only [List.map_cons, rfK]
    have h := hstep x xs a0 h0 (fun s => rfK B Q env n p (xs.map row) s) fun b σ' hI hb => by rw [hb]; exact ih b hI
    have he : rkK Q env n (fun s => rfK B Q env n p (xs.map row) s) = fun ex _ σ' => match ex with
        | .normal => rfK B Q env n p (xs.map row) (shrink n σ')
        | .exit i => Q (.exit i) env (shrink n σ')
        | .ret => Q .ret env (shrink n σ')
        | .panic _ => False := by
      funext ex e σ'
      cases ex <;> rfl
    rw [he] at h
    exact h
end
end Go.Plane
end
section
set_option linter.unusedVariables false
set_option linter.unusedSimpArgs false
set_option maxRecDepth 100000
set_option maxHeartbeats 2000000
namespace Go.Plane
open Go Go.Proofs
theorem scan_nil {f i : Nat} : scanF f i [] = [] := by cases f <;> rfl
theorem row_at {L : List Pc} {k : Nat} {p : Pc} {q : List Pc} (h : p :: q = L.drop k) : (L.map Pc.row)[k]? = some p.row ∧ q = L.drop (k + 1) ∧ k < L.length := by
  have hk : k < L.length := by
    apply Decidable.byContradiction
    intro hn
    rw [List.drop_of_length_le (by omega)] at h
    cases h
  rw [List.drop_eq_getElem_cons hk] at h
  injection h with h1 h2
  refine ⟨?_, h2, hk⟩
  rw [List.getElem?_map, List.getElem?_eq_getElem hk, ← h1]
  rfl
theorem pc_flat (L : List Pc) : ∀ x ∈ L.map Pc.row, ∀ d ∈ x, ∀ l, d ≠ .slice l := by
  intro x hx d hd l he
  obtain ⟨p, _, rfl⟩ := List.mem_map.1 hx
  subst he
  simp [Pc.row] at hd
theorem badIdx_lt (s : List UInt8) : badIdx s < s.length ∨ badIdx s = -1 := by
  unfold badIdx
  cases h : s.findIdx? isBad with
  | none => right; rfl
  | some i => left; have := List.findIdx?_eq_some_iff_getElem.1 h; obtain ⟨h1, _⟩ := this; simp only; omega
theorem signM_le (s : List UInt8) : (signM s).length ≤ s.length := by
  unfold signM
  cases h : signs.find? (fun x => x.isPrefixOf s) with
  | none => simp
  | some x =>
    have := List.find?_some h
    simpa using (List.isPrefixOf_iff_prefix.1 this).length_le
theorem it_pieces (s : List UInt8) (hs : s.length ≤ 4294967296) : Iter Γz 88 [.cptr [.str s] 0] ((scanM s).map Pc.row) := by
  refine Iter_run c88 rfl (pc_flat _) (fun l => by simp only [Env.of, List.zipIdx, List.map, Env.put]; rfl) ?_
  intro Γ' hY hF
  repeat' (first | refine dr ?_ | (refine ds ?_ ?_ <;> intro hb) | ((with_reducible refine dbm ?_); first | exact db_nil | refine dbc ?_ ?_) | ((with_reducible refine natle ?_); first | assumption | omega | (simp; omega)))
  refine LP_ind (α := Nat × Nat) (fun a => s.length - a.1) (fun a => [(0, .yl Γ'.Y.l), (1, .cptr [.str s] 0), (3, .d (.int .i64 a.1)), (1000000000, .cnt a.2)]) (fun _ => [])
    (fun a => a.1 ≤ s.length ∧ a.2 ≤ (scanM s).length ∧ ∃ f, s.length - a.1 ≤ f ∧ scanF f a.1 (s.drop a.1) = (scanM s).drop a.2) (0, 0) rfl rfl ⟨Nat.zero_le _, Nat.zero_le _, s.length, by omega, rfl⟩ ?_
  rintro ⟨i, k⟩ ⟨h1, hkl, f, hf, hsc⟩ ih
  simp only at h1 hkl hf hsc
  apply LP_go
  rcases hx : s.drop i with _ | ⟨b, r⟩
  · have hi : i = s.length := by
      have := congrArg List.length hx
      simp at this
      omega
    subst hi
    repeat' (first | refine dr ?_ | (refine ds ?_ ?_ <;> intro hb) | ((with_reducible refine dbm ?_); first | exact db_nil | refine dbc ?_ ?_) | ((with_reducible refine natle ?_); first | assumption | omega | (simp; omega)))
    rw [hx, scan_nil] at hsc
    have hk : (scanM s).length ≤ k := List.drop_eq_nil_iff.1 hsc.symm
    left
    have : k = (scanM s).length := by omega
    simp [get_cons, this, cntT]
  · have hlen : s.length = i + (r.length + 1) := by
      have := congrArg List.length hx
      simp at this
      omega
    obtain ⟨g, rfl⟩ : ∃ g, f = g + 1 := ⟨f - 1, by omega⟩
    rw [hx] at hsc
    simp only [scanF] at hsc
    have hdrop : ∀ n, (b :: r).drop n = s.drop (i + n) := fun n => by rw [← hx, List.drop_drop]
    have hb0 : (b :: r)[0]? = some b := rfl
    have hbr : (b :: r).length ≤ 4294967296 := by simp; omega
    have hrun := hF (f_run (b :: r) hbr)
    by_cases hb : b = 32
    · rw [if_pos hb] at hsc
      have hb' : (b.toNat : Int) = 32 := by rw [hb]; rfl
      have hr : s.drop (i + 1) = r := (hdrop 1).symm
      clear hb
      repeat' (first | ((with_reducible refine wcm ?_); first | refine cF (hrun) ?_) | refine dr ?_ | (refine ds ?_ ?_ <;> intro hb) | ((with_reducible refine dbm ?_); first | exact db_nil | refine dbc ?_ ?_) | ((with_reducible refine natle ?_); first | assumption | omega | (simp; omega)))
      refine LP_at ?_ rfl (ih (i + 1, k) ⟨by simp only; omega, hkl, g, by simp only; omega, by simp only; rw [hr]; exact hsc⟩ (by simp only; omega))
      (first | (simp [Env.shr, Env.get, PV.exp, PV.ids, PV.ids.idsL]; done) | simp [Env.shr, Env.get, PV.exp, PV.ids, PV.ids.idsL, *])
    · rw [if_neg hb] at hsc
      have hb' : (b.toNat : Int) ≠ 32 := by
        have := byte_eq b 32 (by decide)
        rw [Bool.eq_iff_iff, beq_iff_eq, beq_iff_eq] at this
        exact fun h => hb (this.1 h)
      obtain ⟨hxs, hrest, hkl'⟩ := row_at hsc
      rw [← hY] at hxs
      rw [hdrop] at hrest
      clear hsc hb
      have hend : ∀ {e : Ex} {p0 p1 p2 p3 p4 : PV} {st : Store}, [] = (scanM s).drop (k + 1) → e = .ret → itPost (List.map Pc.row (scanM s)).length e [(0, p0), (1, p1), (3, p2), (6, p3), (87, p4), (1000000000, .cnt (k + 1))] st := by
        intro e p0 p1 p2 p3 p4 st h he
        have h2 : (scanM s).length ≤ k + 1 := List.drop_eq_nil_iff.1 h.symm
        have h3 : k + 1 = (scanM s).length := by omega
        subst he
        left
        simp [get_cons, h3, cntT]
      have hstp : ∀ {e : Ex} {p0 p1 p2 p3 p4 : PV} {st : Store}, e = .ret → itPost (List.map Pc.row (scanM s)).length e [(0, p0), (1, p1), (3, p2), (6, p3), (87, p4), (1000000000, .stp)] st := by
        intro e p0 p1 p2 p3 p4 st he
        subst he
        right
        simp [get_cons, cntT]
      have hp := F_HasPrefix (b :: r) [45, 45]
      cases hpre : [45, 45].isPrefixOf (b :: r) with
      | true =>
        rw [hpre] at hp
        have hp := hF hp
        have hbad := hF (f_noteBad (b :: r))
        by_cases hbi : 0 ≤ badIdx (b :: r)
        · have hpm : pieceM i b r = (⟨0, [], i + badIdx (b :: r), 2⟩, (b :: r).length) := by unfold pieceM; rw [if_pos hpre, if_pos hbi]
          rw [hpm] at hxs hrest
          simp only [Pc.row, ne_eq] at hxs hrest
          rw [if_pos (by decide)] at hrest
          have hbi2 : badIdx (b :: r) ≤ 4294967296 := by
            have := badIdx_lt (b :: r)
            omega
          clear hpm hpre
          repeat' (first | (refine oy ?_ ?_) | ((with_reducible refine wcm ?_); first | refine cF (hrun) ?_ | refine cF (hp) ?_ | refine cF (hbad) ?_) | refine dr ?_ | (refine ds ?_ ?_ <;> intro hb) | ((with_reducible refine dbm ?_); first | exact db_nil | refine dbc ?_ ?_) | ((with_reducible refine natle ?_); first | assumption | omega | (simp; omega)))
          all_goals first | exact hstp rfl | exact hend hrest rfl
        · have hpm : pieceM i b r = (⟨6, b :: r, i, 0⟩, (b :: r).length) := by unfold pieceM; rw [if_pos hpre, if_neg hbi]
          rw [hpm] at hxs hrest
          simp only [Pc.row, ne_eq] at hxs hrest
          rw [if_neg (by decide)] at hrest
          clear hpm hpre
          repeat' (first | (refine oy ?_ ?_) | ((with_reducible refine wcm ?_); first | refine cF (hrun) ?_ | refine cF (hp) ?_ | refine cF (hbad) ?_) | refine dr ?_ | (refine ds ?_ ?_ <;> intro hb) | ((with_reducible refine dbm ?_); first | exact db_nil | refine dbc ?_ ?_) | ((with_reducible refine natle ?_); first | assumption | omega | (simp; omega)))
          all_goals first
            | exact hstp rfl
            | (refine LP_at ?_ rfl (ih (i + (r.length + 1), k + 1) ⟨by simp only; omega, by simp only; omega, g, by simp only; omega, hrest⟩ (by simp only; omega)); (first | (simp [Env.shr, Env.get, PV.exp, PV.ids, PV.ids.idsL]; done) | simp [Env.shr, Env.get, PV.exp, PV.ids, PV.ids.idsL, *]))
      | false =>
        rw [hpre] at hp
        have hp := hF hp
        by_cases hn0 : 0 < (List.takeWhile isPart (b :: r)).length
        · have hnle : (List.takeWhile isPart (b :: r)).length ≤ (b :: r).length := (List.takeWhile_sublist _).length_le
          by_cases h95 : b = 95
          · have hb95 : (b.toNat : Int) = 95 := by rw [h95]; rfl
            have hpm : pieceM i b r = (⟨5, signM (b :: r), i, if (signM (b :: r)).length = 0 then 2 else 0⟩, (signM (b :: r)).length) := by
              unfold pieceM; rw [if_neg (by rw [hpre]; decide), if_neg (fun h => h.2 h95)]
            rw [hpm] at hxs hrest
            clear hpm hpre h95
            have hsg := hF (f_sign (b :: r))
            have hsl : (signM (b :: r)).length ≤ (b :: r).length := signM_le (b :: r)
            generalize signM (b :: r) = t at *
            simp only [Pc.row, ne_eq] at hxs hrest
            by_cases hl : t.length = 0
            · rw [if_pos hl] at hxs
              rw [if_pos (by simp [hl])] at hrest
              repeat' (first | (refine oy ?_ ?_) | ((with_reducible refine wcm ?_); first | refine cF (hrun) ?_ | refine cF (hp) ?_ | refine cF (hsg) ?_) | refine dr ?_ | (refine ds ?_ ?_ <;> intro hb) | ((with_reducible refine dbm ?_); first | exact db_nil | refine dbc ?_ ?_) | ((with_reducible refine natle ?_); first | assumption | omega | (simp; omega)))
              all_goals first | exact hstp rfl | exact hend hrest rfl
            · rw [if_neg hl] at hxs
              rw [if_neg (by simp [hl])] at hrest
              repeat' (first | (refine oy ?_ ?_) | ((with_reducible refine wcm ?_); first | refine cF (hrun) ?_ | refine cF (hp) ?_ | refine cF (hsg) ?_) | refine dr ?_ | (refine ds ?_ ?_ <;> intro hb) | ((with_reducible refine dbm ?_); first | exact db_nil | refine dbc ?_ ?_) | ((with_reducible refine natle ?_); first | assumption | omega | (simp; omega)))
              all_goals first
                | exact hstp rfl
                | (refine LP_at ?_ rfl (ih (i + t.length, k + 1) ⟨by simp only; simp at hsl; omega, by simp only; omega, g, by simp only; omega, hrest⟩ (by simp only; simp at hsl; omega)); (first | (simp [Env.shr, Env.get, PV.exp, PV.ids, PV.ids.idsL]; done) | simp [Env.shr, Env.get, PV.exp, PV.ids, PV.ids.idsL, *]))
          · have hb95 : (b.toNat : Int) ≠ 95 := by
              have := byte_eq b 95 (by decide)
              rw [Bool.eq_iff_iff, beq_iff_eq, beq_iff_eq] at this
              exact fun h => h95 (this.1 h)
            have hsh := hF (f_Shape ((b :: r).take (List.takeWhile isPart (b :: r)).length) (by rw [List.length_take]; omega))
            have hpm : pieceM i b r = (⟨(shapeM ((b :: r).take (List.takeWhile isPart (b :: r)).length)).1, (b :: r).take (List.takeWhile isPart (b :: r)).length, i, (shapeM ((b :: r).take (List.takeWhile isPart (b :: r)).length)).2⟩, (List.takeWhile isPart (b :: r)).length) := by
              unfold pieceM; rw [if_neg (by rw [hpre]; decide), if_pos ⟨hn0, h95⟩]
            rw [hpm] at hxs hrest
            clear hpm hpre h95
            generalize ht : (b :: r).take (List.takeWhile isPart (b :: r)).length = t at *
            generalize hn : (List.takeWhile isPart (b :: r)).length = n at *
            simp only [Pc.row, ne_eq] at hxs hrest
            by_cases he : (shapeM t).2 = 0
            · rw [if_neg (by simp [he])] at hrest
              rw [he] at hxs
              repeat' (first | (refine oy ?_ ?_) | ((with_reducible refine wcm ?_); first | refine cF (hrun) ?_ | refine cF (hp) ?_ | refine cF (hsh) ?_) | refine dr ?_ | (refine ds ?_ ?_ <;> intro hb) | ((with_reducible refine dbm ?_); first | exact db_nil | refine dbc ?_ ?_) | ((with_reducible refine natle ?_); first | assumption | omega | (simp; omega)))
              all_goals first
                | exact hstp rfl
                | (refine LP_at ?_ rfl (ih (i + n, k + 1) ⟨by simp only; simp at hnle; omega, by simp only; omega, g, by simp only; omega, hrest⟩ (by simp only; simp at hnle; omega)); (first | (simp [Env.shr, Env.get, PV.exp, PV.ids, PV.ids.idsL]; done) | simp [Env.shr, Env.get, PV.exp, PV.ids, PV.ids.idsL, *]))
            · rw [if_pos (by simp [he])] at hrest
              repeat' (first | (refine oy ?_ ?_) | ((with_reducible refine wcm ?_); first | refine cF (hrun) ?_ | refine cF (hp) ?_ | refine cF (hsh) ?_) | refine dr ?_ | (refine ds ?_ ?_ <;> intro hb) | ((with_reducible refine dbm ?_); first | exact db_nil | refine dbc ?_ ?_) | ((with_reducible refine natle ?_); first | assumption | omega | (simp; omega)))
              all_goals first | exact hstp rfl | exact hend hrest rfl
        · have hn00 : (List.takeWhile isPart (b :: r)).length = 0 := by omega
          have hpm : pieceM i b r = (⟨5, signM (b :: r), i, if (signM (b :: r)).length = 0 then 2 else 0⟩, (signM (b :: r)).length) := by
            unfold pieceM; rw [if_neg (by rw [hpre]; decide), if_neg (fun h => hn0 h.1)]
          rw [hpm] at hxs hrest
          clear hpm hpre
          have hsg := hF (f_sign (b :: r))
          have hsl : (signM (b :: r)).length ≤ (b :: r).length := signM_le (b :: r)
          generalize signM (b :: r) = t at *
          simp only [Pc.row, ne_eq] at hxs hrest
          by_cases hl : t.length = 0
          · rw [if_pos hl] at hxs
            rw [if_pos (by simp [hl])] at hrest
            repeat' (first | (refine oy ?_ ?_) | ((with_reducible refine wcm ?_); first | refine cF (hrun) ?_ | refine cF (hp) ?_ | refine cF (hsg) ?_) | refine dr ?_ | (refine ds ?_ ?_ <;> intro hb) | ((with_reducible refine dbm ?_); first | exact db_nil | refine dbc ?_ ?_) | ((with_reducible refine natle ?_); first | assumption | omega | (simp; omega)))
            all_goals first | exact hstp rfl | exact hend hrest rfl
          · rw [if_neg hl] at hxs
            rw [if_neg (by simp [hl])] at hrest
            repeat' (first | (refine oy ?_ ?_) | ((with_reducible refine wcm ?_); first | refine cF (hrun) ?_ | refine cF (hp) ?_ | refine cF (hsg) ?_) | refine dr ?_ | (refine ds ?_ ?_ <;> intro hb) | ((with_reducible refine dbm ?_); first | exact db_nil | refine dbc ?_ ?_) | ((with_reducible refine natle ?_); first | assumption | omega | (simp; omega)))
            all_goals first
              | exact hstp rfl
              | (refine LP_at ?_ rfl (ih (i + t.length, k + 1) ⟨by simp only; simp at hsl; omega, by simp only; omega, g, by simp only; omega, hrest⟩ (by simp only; simp at hsl; omega)); (first | (simp [Env.shr, Env.get, PV.exp, PV.ids, PV.ids.idsL]; done) | simp [Env.shr, Env.get, PV.exp, PV.ids, PV.ids.idsL, *]))
end Go.Plane
end

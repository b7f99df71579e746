/- LexPlaces returns true for every input, and leaves its arguments as they were: the tied card of the statement. No condition of our own. -/
import Derived.Test.YtccejlonkoafgaaDoorW11
import Derived.Test.YtccejlonkoafgaaDoorW8
section
set_option linter.unnecessarySimpa false
set_option linter.unusedSimpArgs false
set_option linter.unusedVariables false
set_option maxRecDepth 100000
namespace Go.Proofs.YtccejlonkoafgaaDoor
open Go Go.Plane Go.ChangeShapes Go.WideShapes
theorem lexPlaces_lifted (os : Os) (started : os.Started) (H : Type) (enc : TypeId × Value → H) :
    ReturnsInHanded {} Tryd.checked os 3 .any (fun w args => (Rows.lexPlacesSpec.pre enc Tryd.prog Tryd.f3 Rows.lexPlacesRow.domain false w args ∧ laidMetH Tryd.prog Rows.lexPlacesRow.laid w) ∧ sizedMet enc Tryd.prog Tryd.f3 (OpenSpec.ofChange Rows.lexPlacesSpec) false w args)
      (Rows.lexPlacesSpec.post enc Tryd.prog Tryd.f3 false true false false) := by
  refine row_of_law (Γ := Γd) (C := Tryd.checked) (s := Rows.lexPlacesSpec) (X := fun w => laidMetH Tryd.prog seatLaid w) (TS := seatTypes) (tb := 4) rfl (fun _ _ hh h => h.of_heap hh) seat_own started (by kernel_rfl) Tryd.func3 seat_closed (by kernel_rfl) seat_out rfl Tryd.underlying4 rfl (fun ds h => ?_) seat_Γ (fun xs h => ?_)
    (ChangeSpec.witness_shaped (enc := enc) (C := Tryd.checked) (os := os) (X := fun w _ => laidMetH Tryd.prog seatLaid w) false (World.laidAll Tryd.prog os seatLaid) #[.string ⟨#[]⟩, .agg #[.int .i64 0, .int .i64 0], .int .i64 0, .agg #[.int .i64 0, .int .i64 0, .string ⟨#[]⟩], .slice none 0 0] 8 (World.laidAll_os _ _ _)
      (World.shaped_of_ZipB (by kernel_rfl) (by kernel_rfl)) (by kernel_rfl) (by kernel_rfl) (by kernel_rfl) (seat_world os _))
  · rw [Tryd.params3] at h
    match ds, h with
    | [d0, d1, d2, d3, d4], _ => rfl
  · rw [Tryd.params3] at h
    obtain ⟨d0, _, rfl, h0, h⟩ := typedAll_cons h
    obtain ⟨d1, _, rfl, h1, h⟩ := typedAll_cons h
    obtain ⟨d2, _, rfl, h2, h⟩ := typedAll_cons h
    obtain ⟨d3, _, rfl, h3, h⟩ := typedAll_cons h
    obtain ⟨d4, _, rfl, h4, h⟩ := typedAll_cons h
    obtain rfl := typedAll_nil h
    obtain ⟨x0, rfl, _⟩ := typed_str Tryd.underlying9 h0
    obtain ⟨x1, y1, rfl⟩ := typed_place h1
    obtain ⟨x2, rfl, _⟩ := typed_int Tryd.underlying3 h2
    obtain ⟨x3, y3, z3, rfl⟩ := typed_change h3
    obtain ⟨x4, rfl⟩ := typed_strs h4
    simp only [pvOf, Tryd.underlying3, Tryd.underlying9, Tryd.underlying23, Tryd.underlying25, Tryd.underlying26, List.headD_cons]
    exact law_Places x0 x1 y1 x2 x3 y3 z3 x4
theorem lexPlaces_said : Rows.LexPlacesSaid :=
  OpenClaim.holds_of_wide 3 Tryd.f3 rfl rfl rfl rfl rfl rfl rfl ⟨rfl, rfl, rfl, rfl, rfl⟩ rfl rfl rfl rfl rfl (by kernel_rfl) Tryd.func3 (by kernel_rfl)
    (of_decide_eq_true (by kernel_rfl)) (by unfold Func.isWrapper; first | (rw [if_pos (by decide +kernel)]; kernel_rfl) | (rw [if_neg (by decide +kernel)]; exact ⟨rfl, rfl⟩))
    (fun os started H enc _ => lexPlaces_lifted os started H enc)
theorem lexPlaces_plain (f : FuncId) (fn : Func) (hf : Tryd.pinned.checked.prog.funcNamed "cosigner/cosignerlaw01.LexPlaces" = some f) (hfn : Tryd.pinned.checked.prog.funcs[f]? = some fn) :
    false = Tryd.pinned.checked.prog.looks [] ∧ ∀ (j : Nat) t, fn.params[j]? = some t → Tryd.pinned.checked.prog.wantsStandIn t = false := by
  obtain rfl : f = 3 := Option.some.inj ((show Tryd.prog.funcNamed "cosigner/cosignerlaw01.LexPlaces" = some 3 by kernel_rfl).symm.trans hf) |>.symm
  obtain rfl : fn = Tryd.f3 := (Option.some.inj (Tryd.func3.symm.trans hfn)).symm
  refine ⟨by kernel_rfl, fun j t ht => ?_⟩
  rw [Tryd.params3] at ht
  have hm : t ∈ seatTypes := by
    have := Array.mem_of_getElem? ht
    simp only [List.mem_toArray, List.mem_cons, List.not_mem_nil, or_false] at this
    rcases this with rfl | rfl | rfl | rfl | rfl <;> decide
  have hall : (seatTypes.all fun u => !Tryd.prog.wantsStandIn u) = true := by kernel_rfl
  exact (show Tryd.prog.wantsStandIn t = false by simpa using List.all_eq_true.1 hall t hm)
/-- The card. -/
theorem lexPlaces_holds : Rows.LexPlacesCardSaid :=
  Claim7.holds_tied_plain_at .later [] _ _ _ _ lexPlaces_said (fun _ h => by cases h) (by kernel_rfl) (fun _ h => by cases h) lexPlaces_row_tie rfl ⟨rfl, rfl⟩ (by kernel_rfl) rfl lexPlaces_plain (by kernel_rfl)
#print axioms lexPlaces_holds
end Go.Proofs.YtccejlonkoafgaaDoor
end

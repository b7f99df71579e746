/- LexTightest returns true for every input, and leaves its arguments as they were: the tied card of the statement. No condition of our own. -/
import Derived.Test.YtccejlonkoafgaaDoorW11
import Derived.Test.YtccejlonkoafgaaDoorW9
section
set_option linter.unnecessarySimpa false
set_option linter.unusedSimpArgs false
set_option linter.unusedVariables false
set_option maxRecDepth 100000
namespace Go.Proofs.YtccejlonkoafgaaDoor
open Go Go.Plane Go.ChangeShapes Go.WideShapes
theorem lexTightest_lifted (os : Os) (started : os.Started) (H : Type) (enc : TypeId × Value → H) :
    ReturnsInHanded {} Tryd.checked os 10 .any (fun w args => (Rows.lexTightestSpec.pre enc Tryd.prog Tryd.f10 Rows.lexTightestRow.domain false w args ∧ laidMetH Tryd.prog Rows.lexTightestRow.laid w) ∧ sizedMet enc Tryd.prog Tryd.f10 (OpenSpec.ofChange Rows.lexTightestSpec) false w args)
      (Rows.lexTightestSpec.post enc Tryd.prog Tryd.f10 false true false false) := by
  refine row_of_law (Γ := Γd) (C := Tryd.checked) (s := Rows.lexTightestSpec) (X := fun w => laidMetH Tryd.prog seatLaid w) (TS := seatTypes) (tb := 4) rfl (fun _ _ hh h => h.of_heap hh) seat_own started (by kernel_rfl) Tryd.func10 seat_closed (by kernel_rfl) seat_out rfl Tryd.underlying4 rfl (fun ds h => ?_) seat_Γ (fun xs h => ?_)
    (ChangeSpec.witness_shaped (enc := enc) (C := Tryd.checked) (os := os) (X := fun w _ => laidMetH Tryd.prog seatLaid w) false (World.laidAll Tryd.prog os seatLaid) #[.string ⟨#[]⟩] 8 (World.laidAll_os _ _ _)
      (World.shaped_of_ZipB (by kernel_rfl) (by kernel_rfl)) (by kernel_rfl) (by kernel_rfl) (by kernel_rfl) (seat_world os _))
  · rw [Tryd.params10] at h
    match ds, h with
    | [d0], _ => rfl
  · rw [Tryd.params10] at h
    obtain ⟨d0, _, rfl, h0, h⟩ := typedAll_cons h
    obtain rfl := typedAll_nil h
    obtain ⟨x0, rfl, _⟩ := typed_str Tryd.underlying9 h0
    simp only [pvOf, Tryd.underlying9, List.headD_cons]
    exact law_Tightest x0
theorem lexTightest_said : Rows.LexTightestSaid :=
  OpenClaim.holds_of_wide 10 Tryd.f10 rfl rfl rfl rfl rfl rfl rfl ⟨rfl, rfl, rfl, rfl, rfl⟩ rfl rfl rfl rfl rfl (by kernel_rfl) Tryd.func10 (by kernel_rfl)
    (of_decide_eq_true (by kernel_rfl)) (by unfold Func.isWrapper; first | (rw [if_pos (by decide +kernel)]; kernel_rfl) | (rw [if_neg (by decide +kernel)]; exact ⟨rfl, rfl⟩))
    (fun os started H enc _ => lexTightest_lifted os started H enc)
theorem lexTightest_plain (f : FuncId) (fn : Func) (hf : Tryd.pinned.checked.prog.funcNamed "cosigner/cosignerlaw01.LexTightest" = some f) (hfn : Tryd.pinned.checked.prog.funcs[f]? = some fn) :
    false = Tryd.pinned.checked.prog.looks [] ∧ ∀ (j : Nat) t, fn.params[j]? = some t → Tryd.pinned.checked.prog.wantsStandIn t = false := by
  obtain rfl : f = 10 := Option.some.inj ((show Tryd.prog.funcNamed "cosigner/cosignerlaw01.LexTightest" = some 10 by kernel_rfl).symm.trans hf) |>.symm
  obtain rfl : fn = Tryd.f10 := (Option.some.inj (Tryd.func10.symm.trans hfn)).symm
  refine ⟨by kernel_rfl, fun j t ht => ?_⟩
  rw [Tryd.params10] at ht
  have hm : t ∈ seatTypes := by
    have := Array.mem_of_getElem? ht
    simp only [List.mem_toArray, List.mem_cons, List.not_mem_nil, or_false] at this
    rcases this with rfl <;> decide
  have hall : (seatTypes.all fun u => !Tryd.prog.wantsStandIn u) = true := by kernel_rfl
  exact (show Tryd.prog.wantsStandIn t = false by simpa using List.all_eq_true.1 hall t hm)
/-- The card. -/
theorem lexTightest_holds : Rows.LexTightestCardSaid :=
  Claim7.holds_tied_plain_at .later [] _ _ _ _ lexTightest_said (fun _ h => by cases h) (by kernel_rfl) (fun _ h => by cases h) lexTightest_row_tie rfl ⟨rfl, rfl⟩ (by kernel_rfl) rfl lexTightest_plain (by kernel_rfl)
#print axioms lexTightest_holds
end Go.Proofs.YtccejlonkoafgaaDoor
end

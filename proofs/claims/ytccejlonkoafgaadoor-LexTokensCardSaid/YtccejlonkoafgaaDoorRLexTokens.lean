/- LexTokens returns true for every input, and leaves its arguments as they were: the tied card of the statement. No condition of our own. -/
import Derived.Test.YtccejlonkoafgaaDoorW11
section
set_option linter.unnecessarySimpa false
set_option linter.unusedSimpArgs false
set_option linter.unusedVariables false
set_option maxRecDepth 100000
namespace Go.Proofs.YtccejlonkoafgaaDoor
open Go Go.Plane Go.ChangeShapes Go.WideShapes
theorem lexTokens_lifted (os : Os) (started : os.Started) (H : Type) (enc : TypeId × Value → H) :
    ReturnsInHanded {} Tryd.checked os 8 .any (fun w args => (Rows.lexTokensSpec.pre enc Tryd.prog Tryd.f8 Rows.lexTokensRow.domain false w args ∧ laidMetH Tryd.prog Rows.lexTokensRow.laid w) ∧ sizedMet enc Tryd.prog Tryd.f8 (OpenSpec.ofChange Rows.lexTokensSpec) false w args)
      (Rows.lexTokensSpec.post enc Tryd.prog Tryd.f8 false true false false) := by
  refine row_of_law (Γ := Γd) (C := Tryd.checked) (s := Rows.lexTokensSpec) (X := fun w => laidMetH Tryd.prog seatLaid w) (TS := seatTypes) (tb := 4) rfl (fun _ _ hh h => h.of_heap hh) seat_own started (by kernel_rfl) Tryd.func8 seat_closed (by kernel_rfl) seat_out rfl Tryd.underlying4 rfl (fun ds h => ?_) seat_Γ (fun xs h => ?_)
    (ChangeSpec.witness_shaped (enc := enc) (C := Tryd.checked) (os := os) (X := fun w _ => laidMetH Tryd.prog seatLaid w) false (World.laidAll Tryd.prog os seatLaid) #[.string ⟨#[]⟩] 8 (World.laidAll_os _ _ _)
      (World.shaped_of_ZipB (by kernel_rfl) (by kernel_rfl)) (by kernel_rfl) (by kernel_rfl) (by kernel_rfl) (seat_world os _))
  · rw [Tryd.params8] at h
    match ds, h with
    | [d0], _ => rfl
  · rw [Tryd.params8] at h
    obtain ⟨d0, _, rfl, h0, h⟩ := typedAll_cons h
    obtain rfl := typedAll_nil h
    obtain ⟨x0, rfl, _⟩ := typed_str Tryd.underlying9 h0
    simp only [pvOf, Tryd.underlying9, List.headD_cons]
    exact law_Tokens x0
theorem lexTokens_said : Rows.LexTokensSaid :=
  OpenClaim.holds_of_wide 8 Tryd.f8 rfl rfl rfl rfl rfl rfl rfl ⟨rfl, rfl, rfl, rfl, rfl⟩ rfl rfl rfl rfl rfl (by kernel_rfl) Tryd.func8 (by kernel_rfl)
    (of_decide_eq_true (by kernel_rfl)) (by unfold Func.isWrapper; first | (rw [if_pos (by decide +kernel)]; kernel_rfl) | (rw [if_neg (by decide +kernel)]; exact ⟨rfl, rfl⟩))
    (fun os started H enc _ => lexTokens_lifted os started H enc)
theorem lexTokens_plain (f : FuncId) (fn : Func) (hf : Tryd.pinned.checked.prog.funcNamed "cosigner/cosignerlaw01.LexTokens" = some f) (hfn : Tryd.pinned.checked.prog.funcs[f]? = some fn) :
    false = Tryd.pinned.checked.prog.looks [] ∧ ∀ (j : Nat) t, fn.params[j]? = some t → Tryd.pinned.checked.prog.wantsStandIn t = false := by
  obtain rfl : f = 8 := Option.some.inj ((show Tryd.prog.funcNamed "cosigner/cosignerlaw01.LexTokens" = some 8 by kernel_rfl).symm.trans hf) |>.symm
  obtain rfl : fn = Tryd.f8 := (Option.some.inj (Tryd.func8.symm.trans hfn)).symm
  refine ⟨by kernel_rfl, fun j t ht => ?_⟩
  rw [Tryd.params8] at ht
  have hm : t ∈ seatTypes := by
    have := Array.mem_of_getElem? ht
    simp only [List.mem_toArray, List.mem_cons, List.not_mem_nil, or_false] at this
    rcases this with rfl <;> decide
  have hall : (seatTypes.all fun u => !Tryd.prog.wantsStandIn u) = true := by kernel_rfl
  exact (show Tryd.prog.wantsStandIn t = false by simpa using List.all_eq_true.1 hall t hm)
/-- The card. -/
theorem lexTokens_holds : Rows.LexTokensCardSaid :=
  Claim7.holds_tied_plain_at .later [] _ _ _ _ lexTokens_said (fun _ h => by cases h) (by kernel_rfl) (fun _ h => by cases h) lexTokens_row_tie rfl ⟨rfl, rfl⟩ (by kernel_rfl) rfl lexTokens_plain (by kernel_rfl)
#print axioms lexTokens_holds
end Go.Proofs.YtccejlonkoafgaaDoor
end

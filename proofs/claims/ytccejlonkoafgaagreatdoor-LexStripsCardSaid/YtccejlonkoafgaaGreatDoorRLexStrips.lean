/- LexStrips returns true for every input, and leaves its arguments as they were: the tied card of the statement. No condition of our own. -/
import Derived.Test.YtccejlonkoafgaaGreatDoorW11
section
set_option linter.unnecessarySimpa false
set_option linter.unusedSimpArgs false
set_option linter.unusedVariables false
set_option maxRecDepth 100000
namespace Go.Proofs.YtccejlonkoafgaaGreatDoor
open Go Go.Plane Go.ChangeShapes Go.WideShapes
theorem lexStrips_lifted (os : Os) (started : os.Started) (H : Type) (enc : TypeId × Value → H) :
    ReturnsInHanded {} Tryz.checked os 5 .any (fun w args => (Rows.lexStripsSpec.pre enc Tryz.prog Tryz.f5 Rows.lexStripsRow.domain false w args ∧ laidMetH Tryz.prog Rows.lexStripsRow.laid w) ∧ sizedMet enc Tryz.prog Tryz.f5 (OpenSpec.ofChange Rows.lexStripsSpec) false w args)
      (Rows.lexStripsSpec.post enc Tryz.prog Tryz.f5 false true false false) := by
  refine row_of_law (Γ := Γz) (C := Tryz.checked) (s := Rows.lexStripsSpec) (X := fun w => laidMetH Tryz.prog seatLaid w) (TS := seatTypes) (tb := 4) rfl (fun _ _ hh h => h.of_heap hh) seat_own started (by kernel_rfl) Tryz.func5 seat_closed (by kernel_rfl) seat_out rfl Tryz.underlying4 rfl (fun ds h => ?_) seat_Γ (fun xs h => ?_)
    (ChangeSpec.witness_shaped (enc := enc) (C := Tryz.checked) (os := os) (X := fun w _ => laidMetH Tryz.prog seatLaid w) false (World.laidAll Tryz.prog os seatLaid) #[.string ⟨#[]⟩, .string ⟨#[]⟩] 8 (World.laidAll_os _ _ _)
      (World.shaped_of_ZipB (by kernel_rfl) (by kernel_rfl)) (by kernel_rfl) (by kernel_rfl) (by kernel_rfl) (seat_world os _))
  · rw [Tryz.params5] at h
    match ds, h with
    | [d0, d1], _ => rfl
  · rw [Tryz.params5] at h
    obtain ⟨d0, _, rfl, h0, h⟩ := typedAll_cons h
    obtain ⟨d1, _, rfl, h1, h⟩ := typedAll_cons h
    obtain rfl := typedAll_nil h
    obtain ⟨x0, rfl, _⟩ := typed_str Tryz.underlying9 h0
    obtain ⟨x1, rfl, _⟩ := typed_str Tryz.underlying9 h1
    simp only [pvOf, Tryz.underlying9, List.headD_cons]
    exact law_Strips x0 x1
theorem lexStrips_said : Rows.LexStripsSaid :=
  OpenClaim.holds_of_wide 5 Tryz.f5 rfl rfl rfl rfl rfl rfl rfl ⟨rfl, rfl, rfl, rfl, rfl⟩ rfl rfl rfl rfl rfl (by kernel_rfl) Tryz.func5 (by kernel_rfl)
    (of_decide_eq_true (by kernel_rfl)) (by unfold Func.isWrapper; first | (rw [if_pos (by decide +kernel)]; kernel_rfl) | (rw [if_neg (by decide +kernel)]; exact ⟨rfl, rfl⟩))
    (fun os started H enc _ => lexStrips_lifted os started H enc)
theorem lexStrips_plain (f : FuncId) (fn : Func) (hf : Tryz.pinned.checked.prog.funcNamed "cosigner/cosignerlaw01.LexStrips" = some f) (hfn : Tryz.pinned.checked.prog.funcs[f]? = some fn) :
    false = Tryz.pinned.checked.prog.looks [] ∧ ∀ (j : Nat) t, fn.params[j]? = some t → Tryz.pinned.checked.prog.wantsStandIn t = false := by
  obtain rfl : f = 5 := Option.some.inj ((show Tryz.prog.funcNamed "cosigner/cosignerlaw01.LexStrips" = some 5 by kernel_rfl).symm.trans hf) |>.symm
  obtain rfl : fn = Tryz.f5 := (Option.some.inj (Tryz.func5.symm.trans hfn)).symm
  refine ⟨by kernel_rfl, fun j t ht => ?_⟩
  rw [Tryz.params5] at ht
  have hm : t ∈ seatTypes := by
    have := Array.mem_of_getElem? ht
    simp only [List.mem_toArray, List.mem_cons, List.not_mem_nil, or_false] at this
    rcases this with rfl | rfl <;> decide
  have hall : (seatTypes.all fun u => !Tryz.prog.wantsStandIn u) = true := by kernel_rfl
  exact (show Tryz.prog.wantsStandIn t = false by simpa using List.all_eq_true.1 hall t hm)
/-- The card. -/
theorem lexStrips_holds : Rows.LexStripsCardSaid :=
  Claim7.holds_tied_plain_at .later [] _ _ _ _ lexStrips_said (fun _ h => by cases h) (by kernel_rfl) (fun _ h => by cases h) lexStrips_row_tie rfl ⟨rfl, rfl⟩ (by kernel_rfl) rfl lexStrips_plain (by kernel_rfl)
#print axioms lexStrips_holds
end Go.Proofs.YtccejlonkoafgaaGreatDoor
end

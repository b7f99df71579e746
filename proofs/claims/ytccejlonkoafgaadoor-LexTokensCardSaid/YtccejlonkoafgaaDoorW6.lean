/- A part of the proof: the calculus over pure values, contracts of functions, and plain lemmas. -/
import Derived.Test.YtccejlonkoafgaaDoorW2
import Derived.Test.YtccejlonkoafgaaDoorW5
section
set_option linter.unusedVariables false
namespace Go.Plane
open Go

/-! ### Iterators -/
section
variable {Γ : Cfg} {Y : YSpec Γ.P} {M M' : Mem} {ρ ρ' : List Gh} {σ σ' : Store} {w w' : World}
theorem Rel.noY (h : Rel { Γ with Y := Y } M ρ σ w) : Rel Γ M ρ σ w := ⟨h.gl, h.mem, h.len, h.box, h.lst, h.inj⟩
theorem Rel.inY (h : Rel Γ M ρ σ w) : Rel { Γ with Y := Y } M ρ σ w := ⟨h.gl, h.mem, h.len, h.box, h.lst, h.inj⟩
theorem Stp.inY (h : Stp Γ M ρ σ w M' ρ' σ' w') : Stp { Γ with Y := Y } M ρ σ w M' ρ' σ' w' := ⟨h.ext, h.rel.inY, h.blk, h.tr⟩
theorem T.inY {f : FuncId} {args : List PV} {Q : Out → Store → Prop} (h : T Γ f args σ Q) : T { Γ with Y := Y } f args σ Q :=
  ⟨h.1, fun M ρ w vs hr hg hl ha => (h.2 M ρ w vs hr.noY hg hl ha).mono fun e w' ⟨M', ρ', σ', o, k1, k2⟩ => ⟨M', ρ', σ', o, k1.inY, k2⟩⟩
end

section
variable {Γ : Cfg} {env : Env} {σ : Store} {Q : Ex → Env → Store → Prop}
theorem Iter_run {f : FuncId} {caps : List PV} {xs : List (List D)} {n : Nat} {body : IC} {env' : Nat → Env} {k : Nat} (hc : chkF Γ.P Γ.E f k ⟨n, [], body⟩ = true) (hk : caps.length + 1 = k) (hflat : ∀ x ∈ xs, ∀ d ∈ x, ∀ l, d ≠ .slice l)
    (he : ∀ l, (Env.of (.yl l :: caps)).put 1000000000 (.cnt 0) = env' l)
    (h : ∀ Γ' : Cfg, Γ'.Y.xs = xs → (∀ {f : FuncId} {az : List PV} {v : PV}, F Γ f az v → F Γ' f az v) → wic Γ' body (itPost xs.length) (env' Γ'.Y.l) []) : Iter Γ f caps xs := by
  subst hk
  refine Iter_of hc rfl hflat fun Y hY => ?_
  have := h { Γ with Y := Y } hY (fun hF => T.inY hF)
  rw [← he] at this
  exact this

theorem oy {d l k : Nat} {x y : Opd} {r : List Ac} {cs : List D} (ht : wops Γ r Q ((1000000000, .cnt (k + 1)) :: (d, .d (.bool true)) :: env) σ) (hf : wops Γ r Q ((1000000000, .stp) :: (d, .d (.bool false)) :: env) σ)
    (hx : x.val env = .yl l := by ((try simp only [*, evq, evBin, optInt, intsOf, PV.elems, PV.dc1, PV.dcs, dc1L, fillD, splice, evLoad, Option.map_some, Option.map_none, get_cons, val_t, val_k, val_f, Nat.reduceEqDiff, Nat.succ_ne_self, ↓reduceIte, reduceCtorEq, List.length_cons, List.length_nil, List.take_succ_cons, List.take_zero, List.drop_succ_cons, List.drop_zero, List.append_nil, List.nil_append, List.cons_append, List.getElem?_cons_zero, List.getElem?_cons_succ, List.getElem?_nil, Nat.reduceAdd, Nat.reduceLeDiff, Nat.reduceSub, Nat.reduceMul, Nat.zero_add, and_self, and_true, true_and, List.foldl_cons, List.foldl_nil, shaped, D.isK, eqDs, D.eqv, Bool.and_true, Bool.true_and, decide_true, decide_false, beq_self_eq_true, bne_self_eq_false, List.set_cons_zero, List.set_cons_succ, Env.keep, List.map, eve, elemsD, PV.cellsOf, setCellsP, rvs, RV.get, retOf, expR, PV.argOf, PV.exp, PV.ids, PV.ids.idsL, List.all_nil, shrink, List.take_nil, Int.toNat_natCast, Int.toNat_zero, Int.natCast_nonneg, Int.le_refl, Bool.not_true, Bool.not_false, Ac.dst, Ac.gd]) <;> rfl)) (hy : y.val env = .agg cs := by ((try simp only [*, evq, evBin, optInt, intsOf, PV.elems, PV.dc1, PV.dcs, dc1L, fillD, splice, evLoad, Option.map_some, Option.map_none, get_cons, val_t, val_k, val_f, Nat.reduceEqDiff, Nat.succ_ne_self, ↓reduceIte, reduceCtorEq, List.length_cons, List.length_nil, List.take_succ_cons, List.take_zero, List.drop_succ_cons, List.drop_zero, List.append_nil, List.nil_append, List.cons_append, List.getElem?_cons_zero, List.getElem?_cons_succ, List.getElem?_nil, Nat.reduceAdd, Nat.reduceLeDiff, Nat.reduceSub, Nat.reduceMul, Nat.zero_add, and_self, and_true, true_and, List.foldl_cons, List.foldl_nil, shaped, D.isK, eqDs, D.eqv, Bool.and_true, Bool.true_and, decide_true, decide_false, beq_self_eq_true, bne_self_eq_false, List.set_cons_zero, List.set_cons_succ, Env.keep, List.map, eve, elemsD, PV.cellsOf, setCellsP, rvs, RV.get, retOf, expR, PV.argOf, PV.exp, PV.ids, PV.ids.idsL, List.all_nil, shrink, List.take_nil, Int.toNat_natCast, Int.toNat_zero, Int.natCast_nonneg, Int.le_refl, Bool.not_true, Bool.not_false, Ac.dst, Ac.gd]) <;> rfl)) (hk : env.get 1000000000 = .cnt k := by ((try simp only [*, evq, evBin, optInt, intsOf, PV.elems, PV.dc1, PV.dcs, dc1L, fillD, splice, evLoad, Option.map_some, Option.map_none, get_cons, val_t, val_k, val_f, Nat.reduceEqDiff, Nat.succ_ne_self, ↓reduceIte, reduceCtorEq, List.length_cons, List.length_nil, List.take_succ_cons, List.take_zero, List.drop_succ_cons, List.drop_zero, List.append_nil, List.nil_append, List.cons_append, List.getElem?_cons_zero, List.getElem?_cons_succ, List.getElem?_nil, Nat.reduceAdd, Nat.reduceLeDiff, Nat.reduceSub, Nat.reduceMul, Nat.zero_add, and_self, and_true, true_and, List.foldl_cons, List.foldl_nil, shaped, D.isK, eqDs, D.eqv, Bool.and_true, Bool.true_and, decide_true, decide_false, beq_self_eq_true, bne_self_eq_false, List.set_cons_zero, List.set_cons_succ, Env.keep, List.map, eve, elemsD, PV.cellsOf, setCellsP, rvs, RV.get, retOf, expR, PV.argOf, PV.exp, PV.ids, PV.ids.idsL, List.all_nil, shrink, List.take_nil, Int.toNat_natCast, Int.toNat_zero, Int.natCast_nonneg, Int.le_refl, Bool.not_true, Bool.not_false, Ac.dst, Ac.gd]) <;> rfl)) (hl : l = Γ.Y.l := by rfl) (hxs : Γ.Y.xs[k]? = some cs := by assumption) : wops Γ (.yld (some d) x y :: r) Q env σ := by
  rw [wops]
  simp only [wio]
  rw [hx, hy, show env.get cntT = .cnt k from hk]
  exact ⟨hl, hxs, ht, hf⟩
theorem orf {g : Opd} {p n : Nat} {a b : IC} {gf : FuncId} {caps : List PV} {xs : List (List D)} (hi : Iter Γ gf caps xs) (h : rfK (fun K e s => wic Γ a (Ex.then (fun e s => wic Γ b K ((1000000000, .undef) :: e) s) (fun _ _ _ => False)) e s) Q env n p xs σ)
    (hg : g.val env = .fn gf [] caps := by ((try simp only [*, evq, evBin, optInt, intsOf, PV.elems, PV.dc1, PV.dcs, dc1L, fillD, splice, evLoad, Option.map_some, Option.map_none, get_cons, val_t, val_k, val_f, Nat.reduceEqDiff, Nat.succ_ne_self, ↓reduceIte, reduceCtorEq, List.length_cons, List.length_nil, List.take_succ_cons, List.take_zero, List.drop_succ_cons, List.drop_zero, List.append_nil, List.nil_append, List.cons_append, List.getElem?_cons_zero, List.getElem?_cons_succ, List.getElem?_nil, Nat.reduceAdd, Nat.reduceLeDiff, Nat.reduceSub, Nat.reduceMul, Nat.zero_add, and_self, and_true, true_and, List.foldl_cons, List.foldl_nil, shaped, D.isK, eqDs, D.eqv, Bool.and_true, Bool.true_and, decide_true, decide_false, beq_self_eq_true, bne_self_eq_false, List.set_cons_zero, List.set_cons_succ, Env.keep, List.map, eve, elemsD, PV.cellsOf, setCellsP, rvs, RV.get, retOf, expR, PV.argOf, PV.exp, PV.ids, PV.ids.idsL, List.all_nil, shrink, List.take_nil, Int.toNat_natCast, Int.toNat_zero, Int.natCast_nonneg, Int.le_refl, Bool.not_true, Bool.not_false, Ac.dst, Ac.gd]) <;> rfl)) (hp : (env.get 1000000000).plain = true := by ((simp [get_cons, Env.get, PV.plain]) <;> rfl)) (hc : PV.ids.idsL caps = [] := by rfl) (hn : σ.length = n := by rfl) : wic Γ (.rf g p a b) Q env σ := by
  subst hn
  refine ⟨hp, ?_⟩
  rw [hg]
  exact ⟨hc, xs, hi, h⟩
/-- What is asked at a round's end. -/
def rkK (Q : Ex → Env → Store → Prop) (env : Env) (n : Nat) (Nx : Store → Prop) : Ex → Env → Store → Prop
  | .normal, _, σ => Nx (shrink n σ)
  | .exit i, _, σ => Q (.exit i) env (shrink n σ)
  | .ret, _, σ => Q .ret env (shrink n σ)
  | .panic _, _, _ => False
theorem rk_ret {n : Nat} {Nx : Store → Prop} {e : Env} {σ' : Store} (h : Q .ret env σ') (hs : shrink n σ = σ' := by ((try simp only [*, evq, evBin, optInt, intsOf, PV.elems, PV.dc1, PV.dcs, dc1L, fillD, splice, evLoad, Option.map_some, Option.map_none, get_cons, val_t, val_k, val_f, Nat.reduceEqDiff, Nat.succ_ne_self, ↓reduceIte, reduceCtorEq, List.length_cons, List.length_nil, List.take_succ_cons, List.take_zero, List.drop_succ_cons, List.drop_zero, List.append_nil, List.nil_append, List.cons_append, List.getElem?_cons_zero, List.getElem?_cons_succ, List.getElem?_nil, Nat.reduceAdd, Nat.reduceLeDiff, Nat.reduceSub, Nat.reduceMul, Nat.zero_add, and_self, and_true, true_and, List.foldl_cons, List.foldl_nil, shaped, D.isK, eqDs, D.eqv, Bool.and_true, Bool.true_and, decide_true, decide_false, beq_self_eq_true, bne_self_eq_false, List.set_cons_zero, List.set_cons_succ, Env.keep, List.map, eve, elemsD, PV.cellsOf, setCellsP, rvs, RV.get, retOf, expR, PV.argOf, PV.exp, PV.ids, PV.ids.idsL, List.all_nil, shrink, List.take_nil, Int.toNat_natCast, Int.toNat_zero, Int.natCast_nonneg, Int.le_refl, Bool.not_true, Bool.not_false, Ac.dst, Ac.gd]) <;> rfl)) : rkK Q env n Nx .ret e σ := by subst hs; exact h
theorem rk_exit {n i : Nat} {Nx : Store → Prop} {e : Env} {σ' : Store} (h : Q (.exit i) env σ') (hs : shrink n σ = σ' := by ((try simp only [*, evq, evBin, optInt, intsOf, PV.elems, PV.dc1, PV.dcs, dc1L, fillD, splice, evLoad, Option.map_some, Option.map_none, get_cons, val_t, val_k, val_f, Nat.reduceEqDiff, Nat.succ_ne_self, ↓reduceIte, reduceCtorEq, List.length_cons, List.length_nil, List.take_succ_cons, List.take_zero, List.drop_succ_cons, List.drop_zero, List.append_nil, List.nil_append, List.cons_append, List.getElem?_cons_zero, List.getElem?_cons_succ, List.getElem?_nil, Nat.reduceAdd, Nat.reduceLeDiff, Nat.reduceSub, Nat.reduceMul, Nat.zero_add, and_self, and_true, true_and, List.foldl_cons, List.foldl_nil, shaped, D.isK, eqDs, D.eqv, Bool.and_true, Bool.true_and, decide_true, decide_false, beq_self_eq_true, bne_self_eq_false, List.set_cons_zero, List.set_cons_succ, Env.keep, List.map, eve, elemsD, PV.cellsOf, setCellsP, rvs, RV.get, retOf, expR, PV.argOf, PV.exp, PV.ids, PV.ids.idsL, List.all_nil, shrink, List.take_nil, Int.toNat_natCast, Int.toNat_zero, Int.natCast_nonneg, Int.le_refl, Bool.not_true, Bool.not_false, Ac.dst, Ac.gd]) <;> rfl)) : rkK Q env n Nx (.exit i) e σ := by subst hs; exact h
/-- By what is left to be yielded. -/
theorem rfK_ind {β α : Type} {B : (Ex → Env → Store → Prop) → Env → Store → Prop} {p n : Nat} {σ : Store} (row : β → List D) (S : α → Store) (I : List β → α → Prop) (xs : List β) (a0 : α) (hs : S a0 = σ) (h0 : I xs a0)
    (hend : ∀ a, I [] a → Q .normal env (S a))
    (hstep : ∀ x xs a, I (x :: xs) a → ∀ Nx : Store → Prop, (∀ b σ', I xs b → σ' = S b → Nx σ') → B (rkK Q env n Nx) ((p, .agg (row x)) :: env) (S a)) : rfK B Q env n p (xs.map row) σ := by
  subst hs
  induction xs generalizing a0 with
  | nil => exact hend a0 h0
  | cons x xs ih =>
    simp only [List.map_cons, rfK]
    have h := hstep x xs a0 h0 (fun s => rfK B Q env n p (xs.map row) s) fun b σ' hI hb => by rw [hb]; exact ih b hI
    have he : rkK Q env n (fun s => rfK B Q env n p (xs.map row) s) = fun ex _ σ' => match ex with
        | .normal => rfK B Q env n p (xs.map row) (shrink n σ')
        | .exit i => Q (.exit i) env (shrink n σ')
        | .ret => Q .ret env (shrink n σ')
        | .panic _ => False := by
      funext ex e σ'
      cases ex <;> rfl
    rw [he] at h
    exact h
end
end Go.Plane
end
section
set_option linter.unusedVariables false
set_option linter.unusedSimpArgs false
set_option maxRecDepth 100000
set_option maxHeartbeats 2000000
namespace Go.Plane
open Go Go.Proofs
theorem scan_nil {f i : Nat} : scanF f i [] = [] := by cases f <;> rfl
theorem row_at {L : List Pc} {k : Nat} {p : Pc} {q : List Pc} (h : p :: q = L.drop k) : (L.map Pc.row)[k]? = some p.row ∧ q = L.drop (k + 1) ∧ k < L.length := by
  have hk : k < L.length := by
    apply Decidable.byContradiction
    intro hn
    rw [List.drop_of_length_le (by omega)] at h
    cases h
  rw [List.drop_eq_getElem_cons hk] at h
  injection h with h1 h2
  refine ⟨?_, h2, hk⟩
  rw [List.getElem?_map, List.getElem?_eq_getElem hk, ← h1]
  rfl
theorem pc_flat (L : List Pc) : ∀ x ∈ L.map Pc.row, ∀ d ∈ x, ∀ l, d ≠ .slice l := by
  intro x hx d hd l he
  obtain ⟨p, _, rfl⟩ := List.mem_map.1 hx
  subst he
  simp [Pc.row] at hd
theorem badIdx_lt (s : List UInt8) : badIdx s < s.length ∨ badIdx s = -1 := by
  unfold badIdx
  cases h : s.findIdx? isBad with
  | none => right; rfl
  | some i => left; have := List.findIdx?_eq_some_iff_getElem.1 h; obtain ⟨h1, _⟩ := this; simp only; omega
theorem signM_le (s : List UInt8) : (signM s).length ≤ s.length := by
  unfold signM
  cases h : signs.find? (fun x => x.isPrefixOf s) with
  | none => simp
  | some x =>
    have := List.find?_some h
    simpa using (List.isPrefixOf_iff_prefix.1 this).length_le
theorem it_pieces (s : List UInt8) (hs : s.length ≤ 4294967296) : Iter Γd 110 [.cptr [.str s] 0] ((scanM s).map Pc.row) := by
  refine Iter_run c110 rfl (pc_flat _) (fun l => by simp only [Env.of, List.zipIdx, List.map, Env.put]; rfl) ?_
  intro Γ' hY hF
  repeat' (first | refine dr ?_ | (refine ds ?_ ?_ <;> intro hb) | ((with_reducible refine dbm ?_); first | exact db_nil | refine dbc ?_ ?_) | ((with_reducible refine natle ?_); first | assumption | omega | (simp; omega)))
  refine LP_ind (α := Nat × Nat) (fun a => s.length - a.1) (fun a => [(0, .yl Γ'.Y.l), (1, .cptr [.str s] 0), (3, .d (.int .i64 a.1)), (1000000000, .cnt a.2)]) (fun _ => [])
    (fun a => a.1 ≤ s.length ∧ a.2 ≤ (scanM s).length ∧ ∃ f, s.length - a.1 ≤ f ∧ scanF f a.1 (s.drop a.1) = (scanM s).drop a.2) (0, 0) rfl rfl ⟨Nat.zero_le _, Nat.zero_le _, s.length, by omega, rfl⟩ ?_
  rintro ⟨i, k⟩ ⟨h1, hkl, f, hf, hsc⟩ ih
  simp only at h1 hkl hf hsc
  apply LP_go
  rcases hx : s.drop i with _ | ⟨b, r⟩
  · have hi : i = s.length := by
      have := congrArg List.length hx
      simp at this
      omega
    subst hi
    repeat' (first | refine dr ?_ | (refine ds ?_ ?_ <;> intro hb) | ((with_reducible refine dbm ?_); first | exact db_nil | refine dbc ?_ ?_) | ((with_reducible refine natle ?_); first | assumption | omega | (simp; omega)))
    rw [hx, scan_nil] at hsc
    have hk : (scanM s).length ≤ k := List.drop_eq_nil_iff.1 hsc.symm
    left
    have : k = (scanM s).length := by omega
    simp [get_cons, this, cntT]
  · have hlen : s.length = i + (r.length + 1) := by
      have := congrArg List.length hx
      simp at this
      omega
    obtain ⟨g, rfl⟩ : ∃ g, f = g + 1 := ⟨f - 1, by omega⟩
    rw [hx] at hsc
    simp only [scanF] at hsc
    have hdrop : ∀ n, (b :: r).drop n = s.drop (i + n) := fun n => by rw [← hx, List.drop_drop]
    have hb0 : (b :: r)[0]? = some b := rfl
    have hbr : (b :: r).length ≤ 4294967296 := by simp; omega
    have hrun := hF (f_run (b :: r) hbr)
    by_cases hb : b = 32
    · rw [if_pos hb] at hsc
      have hb' : (b.toNat : Int) = 32 := by rw [hb]; rfl
      have hr : s.drop (i + 1) = r := (hdrop 1).symm
      clear hb
      repeat' (first | ((with_reducible refine wcm ?_); first | refine cF (hrun) ?_) | refine dr ?_ | (refine ds ?_ ?_ <;> intro hb) | ((with_reducible refine dbm ?_); first | exact db_nil | refine dbc ?_ ?_) | ((with_reducible refine natle ?_); first | assumption | omega | (simp; omega)))
      refine LP_at ?_ rfl (ih (i + 1, k) ⟨by simp only; omega, hkl, g, by simp only; omega, by simp only; rw [hr]; exact hsc⟩ (by simp only; omega))
      (first | (simp [Env.shr, Env.get, PV.exp, PV.ids, PV.ids.idsL]; done) | simp [Env.shr, Env.get, PV.exp, PV.ids, PV.ids.idsL, *])
    · rw [if_neg hb] at hsc
      have hb' : (b.toNat : Int) ≠ 32 := by
        have := byte_eq b 32 (by decide)
        rw [Bool.eq_iff_iff, beq_iff_eq, beq_iff_eq] at this
        exact fun h => hb (this.1 h)
      obtain ⟨hxs, hrest, hkl'⟩ := row_at hsc
      rw [← hY] at hxs
      rw [hdrop] at hrest
      clear hsc hb
      have hend : ∀ {e : Ex} {p0 p1 p2 p3 p4 : PV} {st : Store}, [] = (scanM s).drop (k + 1) → e = .ret → itPost (List.map Pc.row (scanM s)).length e [(0, p0), (1, p1), (3, p2), (6, p3), (87, p4), (1000000000, .cnt (k + 1))] st := by
        intro e p0 p1 p2 p3 p4 st h he
        have h2 : (scanM s).length ≤ k + 1 := List.drop_eq_nil_iff.1 h.symm
        have h3 : k + 1 = (scanM s).length := by omega
        subst he
        left
        simp [get_cons, h3, cntT]
      have hstp : ∀ {e : Ex} {p0 p1 p2 p3 p4 : PV} {st : Store}, e = .ret → itPost (List.map Pc.row (scanM s)).length e [(0, p0), (1, p1), (3, p2), (6, p3), (87, p4), (1000000000, .stp)] st := by
        intro e p0 p1 p2 p3 p4 st he
        subst he
        right
        simp [get_cons, cntT]
      have hp := F_HasPrefix (b :: r) [45, 45]
      cases hpre : [45, 45].isPrefixOf (b :: r) with
      | true =>
        rw [hpre] at hp
        have hp := hF hp
        have hbad := hF (f_noteBad (b :: r))
        by_cases hbi : 0 ≤ badIdx (b :: r)
        · have hpm : pieceM i b r = (⟨0, [], i + badIdx (b :: r), 2⟩, (b :: r).length) := by unfold pieceM; rw [if_pos hpre, if_pos hbi]
          rw [hpm] at hxs hrest
          simp only [Pc.row, ne_eq] at hxs hrest
          rw [if_pos (by decide)] at hrest
          have hbi2 : badIdx (b :: r) ≤ 4294967296 := by
            have := badIdx_lt (b :: r)
            omega
          clear hpm hpre
          repeat' (first | (refine oy ?_ ?_) | ((with_reducible refine wcm ?_); first | refine cF (hrun) ?_ | refine cF (hp) ?_ | refine cF (hbad) ?_) | refine dr ?_ | (refine ds ?_ ?_ <;> intro hb) | ((with_reducible refine dbm ?_); first | exact db_nil | refine dbc ?_ ?_) | ((with_reducible refine natle ?_); first | assumption | omega | (simp; omega)))
          all_goals first | exact hstp rfl | exact hend hrest rfl
        · have hpm : pieceM i b r = (⟨6, b :: r, i, 0⟩, (b :: r).length) := by unfold pieceM; rw [if_pos hpre, if_neg hbi]
          rw [hpm] at hxs hrest
          simp only [Pc.row, ne_eq] at hxs hrest
          rw [if_neg (by decide)] at hrest
          clear hpm hpre
          repeat' (first | (refine oy ?_ ?_) | ((with_reducible refine wcm ?_); first | refine cF (hrun) ?_ | refine cF (hp) ?_ | refine cF (hbad) ?_) | refine dr ?_ | (refine ds ?_ ?_ <;> intro hb) | ((with_reducible refine dbm ?_); first | exact db_nil | refine dbc ?_ ?_) | ((with_reducible refine natle ?_); first | assumption | omega | (simp; omega)))
          all_goals first
            | exact hstp rfl
            | (refine LP_at ?_ rfl (ih (i + (r.length + 1), k + 1) ⟨by simp only; omega, by simp only; omega, g, by simp only; omega, hrest⟩ (by simp only; omega)); (first | (simp [Env.shr, Env.get, PV.exp, PV.ids, PV.ids.idsL]; done) | simp [Env.shr, Env.get, PV.exp, PV.ids, PV.ids.idsL, *]))
      | false =>
        rw [hpre] at hp
        have hp := hF hp
        by_cases hn0 : 0 < (List.takeWhile isPart (b :: r)).length
        · have hnle : (List.takeWhile isPart (b :: r)).length ≤ (b :: r).length := (List.takeWhile_sublist _).length_le
          by_cases h95 : b = 95
          · have hb95 : (b.toNat : Int) = 95 := by rw [h95]; rfl
            have hpm : pieceM i b r = (⟨5, signM (b :: r), i, if (signM (b :: r)).length = 0 then 2 else 0⟩, (signM (b :: r)).length) := by
              unfold pieceM; rw [if_neg (by rw [hpre]; decide), if_neg (fun h => h.2 h95)]
            rw [hpm] at hxs hrest
            clear hpm hpre h95
            have hsg := hF (f_sign (b :: r))
            have hsl : (signM (b :: r)).length ≤ (b :: r).length := signM_le (b :: r)
            generalize signM (b :: r) = t at *
            simp only [Pc.row, ne_eq] at hxs hrest
            by_cases hl : t.length = 0
            · rw [if_pos hl] at hxs
              rw [if_pos (by simp [hl])] at hrest
              repeat' (first | (refine oy ?_ ?_) | ((with_reducible refine wcm ?_); first | refine cF (hrun) ?_ | refine cF (hp) ?_ | refine cF (hsg) ?_) | refine dr ?_ | (refine ds ?_ ?_ <;> intro hb) | ((with_reducible refine dbm ?_); first | exact db_nil | refine dbc ?_ ?_) | ((with_reducible refine natle ?_); first | assumption | omega | (simp; omega)))
              all_goals first | exact hstp rfl | exact hend hrest rfl
            · rw [if_neg hl] at hxs
              rw [if_neg (by simp [hl])] at hrest
              repeat' (first | (refine oy ?_ ?_) | ((with_reducible refine wcm ?_); first | refine cF (hrun) ?_ | refine cF (hp) ?_ | refine cF (hsg) ?_) | refine dr ?_ | (refine ds ?_ ?_ <;> intro hb) | ((with_reducible refine dbm ?_); first | exact db_nil | refine dbc ?_ ?_) | ((with_reducible refine natle ?_); first | assumption | omega | (simp; omega)))
              all_goals first
                | exact hstp rfl
                | (refine LP_at ?_ rfl (ih (i + t.length, k + 1) ⟨by simp only; simp at hsl; omega, by simp only; omega, g, by simp only; omega, hrest⟩ (by simp only; simp at hsl; omega)); (first | (simp [Env.shr, Env.get, PV.exp, PV.ids, PV.ids.idsL]; done) | simp [Env.shr, Env.get, PV.exp, PV.ids, PV.ids.idsL, *]))
          · have hb95 : (b.toNat : Int) ≠ 95 := by
              have := byte_eq b 95 (by decide)
              rw [Bool.eq_iff_iff, beq_iff_eq, beq_iff_eq] at this
              exact fun h => h95 (this.1 h)
            have hsh := hF (f_Shape ((b :: r).take (List.takeWhile isPart (b :: r)).length) (by rw [List.length_take]; omega))
            have hpm : pieceM i b r = (⟨(shapeM ((b :: r).take (List.takeWhile isPart (b :: r)).length)).1, (b :: r).take (List.takeWhile isPart (b :: r)).length, i, (shapeM ((b :: r).take (List.takeWhile isPart (b :: r)).length)).2⟩, (List.takeWhile isPart (b :: r)).length) := by
              unfold pieceM; rw [if_neg (by rw [hpre]; decide), if_pos ⟨hn0, h95⟩]
            rw [hpm] at hxs hrest
            clear hpm hpre h95
            generalize ht : (b :: r).take (List.takeWhile isPart (b :: r)).length = t at *
            generalize hn : (List.takeWhile isPart (b :: r)).length = n at *
            simp only [Pc.row, ne_eq] at hxs hrest
            by_cases he : (shapeM t).2 = 0
            · rw [if_neg (by simp [he])] at hrest
              rw [he] at hxs
              repeat' (first | (refine oy ?_ ?_) | ((with_reducible refine wcm ?_); first | refine cF (hrun) ?_ | refine cF (hp) ?_ | refine cF (hsh) ?_) | refine dr ?_ | (refine ds ?_ ?_ <;> intro hb) | ((with_reducible refine dbm ?_); first | exact db_nil | refine dbc ?_ ?_) | ((with_reducible refine natle ?_); first | assumption | omega | (simp; omega)))
              all_goals first
                | exact hstp rfl
                | (refine LP_at ?_ rfl (ih (i + n, k + 1) ⟨by simp only; simp at hnle; omega, by simp only; omega, g, by simp only; omega, hrest⟩ (by simp only; simp at hnle; omega)); (first | (simp [Env.shr, Env.get, PV.exp, PV.ids, PV.ids.idsL]; done) | simp [Env.shr, Env.get, PV.exp, PV.ids, PV.ids.idsL, *]))
            · rw [if_pos (by simp [he])] at hrest
              repeat' (first | (refine oy ?_ ?_) | ((with_reducible refine wcm ?_); first | refine cF (hrun) ?_ | refine cF (hp) ?_ | refine cF (hsh) ?_) | refine dr ?_ | (refine ds ?_ ?_ <;> intro hb) | ((with_reducible refine dbm ?_); first | exact db_nil | refine dbc ?_ ?_) | ((with_reducible refine natle ?_); first | assumption | omega | (simp; omega)))
              all_goals first | exact hstp rfl | exact hend hrest rfl
        · have hn00 : (List.takeWhile isPart (b :: r)).length = 0 := by omega
          have hpm : pieceM i b r = (⟨5, signM (b :: r), i, if (signM (b :: r)).length = 0 then 2 else 0⟩, (signM (b :: r)).length) := by
            unfold pieceM; rw [if_neg (by rw [hpre]; decide), if_neg (fun h => hn0 h.1)]
          rw [hpm] at hxs hrest
          clear hpm hpre
          have hsg := hF (f_sign (b :: r))
          have hsl : (signM (b :: r)).length ≤ (b :: r).length := signM_le (b :: r)
          generalize signM (b :: r) = t at *
          simp only [Pc.row, ne_eq] at hxs hrest
          by_cases hl : t.length = 0
          · rw [if_pos hl] at hxs
            rw [if_pos (by simp [hl])] at hrest
            repeat' (first | (refine oy ?_ ?_) | ((with_reducible refine wcm ?_); first | refine cF (hrun) ?_ | refine cF (hp) ?_ | refine cF (hsg) ?_) | refine dr ?_ | (refine ds ?_ ?_ <;> intro hb) | ((with_reducible refine dbm ?_); first | exact db_nil | refine dbc ?_ ?_) | ((with_reducible refine natle ?_); first | assumption | omega | (simp; omega)))
            all_goals first | exact hstp rfl | exact hend hrest rfl
          · rw [if_neg hl] at hxs
            rw [if_neg (by simp [hl])] at hrest
            repeat' (first | (refine oy ?_ ?_) | ((with_reducible refine wcm ?_); first | refine cF (hrun) ?_ | refine cF (hp) ?_ | refine cF (hsg) ?_) | refine dr ?_ | (refine ds ?_ ?_ <;> intro hb) | ((with_reducible refine dbm ?_); first | exact db_nil | refine dbc ?_ ?_) | ((with_reducible refine natle ?_); first | assumption | omega | (simp; omega)))
            all_goals first
              | exact hstp rfl
              | (refine LP_at ?_ rfl (ih (i + t.length, k + 1) ⟨by simp only; simp at hsl; omega, by simp only; omega, g, by simp only; omega, hrest⟩ (by simp only; simp at hsl; omega)); (first | (simp [Env.shr, Env.get, PV.exp, PV.ids, PV.ids.idsL]; done) | simp [Env.shr, Env.get, PV.exp, PV.ids, PV.ids.idsL, *]))
end Go.Plane
end
section
set_option linter.unusedVariables false
set_option linter.unusedSimpArgs false
set_option maxRecDepth 100000
set_option maxHeartbeats 2000000
namespace Go.Plane
open Go Go.Proofs
theorem f_pieces (s : List UInt8) : F Γd 80 [.d (.str s)] (.fn 110 [] [.cptr [.str s] 0]) := by
  refine fn_of c80 rfl (by simp only [Env.of, List.zipIdx, List.map]; rfl) ?_
  repeat' (first | refine dr ?_ | (refine ds ?_ ?_ <;> intro hb) | ((with_reducible refine dbm ?_); first | exact db_nil | refine dbc ?_ ?_) | ((with_reducible refine natle ?_); first | assumption | omega | (simp; omega)))
  exact ⟨rfl, rfl⟩

/-! ### All lines -/
def tokOf (l : Int) (p : Pc) : Tok := ⟨p.k, p.s, l, 1 + p.a⟩
def errOf (ps : List Pc) : Option Pc := ps.find? fun p => p.e != 0
def keptOf (want : Int → Bool) (l : Int) (ps : List Pc) : List Tok := (ps.filter fun p => want p.k).map (tokOf l)
/-- The tokens that are wanted, or the first error: its place and what it is. -/
def readM (want : Int → Bool) : Int → List (List UInt8) → List Tok → List Tok × Int × Int × Int
  | _, [], acc => (acc, 0, 0, 0)
  | l, s :: ls, acc => match errOf (scanM s) with
    | some p => ([], l, 1 + p.a, p.e)
    | none => readM want (l + 1) ls (acc ++ keptOf want l (scanM s))
def readP (r : List Tok × Int × Int × Int) : PV := .tup [.d (.slice (toksD r.1)), .agg [.int .i64 r.2.1, .int .i64 r.2.2.1], .d (.int .i64 r.2.2.2)]

theorem pieceM_len (i : Int) (b : UInt8) (r : List UInt8) : (pieceM i b r).2 ≤ (b :: r).length := by
  unfold pieceM
  split
  · split <;> exact Nat.le_refl _
  · split
    · exact (List.takeWhile_sublist _).length_le
    · exact signM_le _
theorem pieceM_at (i : Int) (b : UInt8) (r : List UInt8) : i ≤ (pieceM i b r).1.a ∧ (pieceM i b r).1.a ≤ i + (b :: r).length := by
  have := badIdx_lt (b :: r)
  unfold pieceM
  split
  · split
    · simp only; omega
    · simp only; omega
  · split <;> simp only <;> omega
theorem scanF_len : ∀ (f i : Nat) (s : List UInt8), (scanF f i s).length ≤ f
  | 0, _, _ => by simp [scanF]
  | _ + 1, _, [] => by simp [scanF]
  | f + 1, i, b :: r => by
    unfold scanF
    split
    · exact Nat.le_succ_of_le (scanF_len f _ _)
    · simp only [List.length_cons]
      refine Nat.succ_le_succ ?_
      split
      · simp
      · exact scanF_len f _ _
theorem scanM_len (s : List UInt8) : (scanM s).length ≤ s.length := scanF_len _ _ _
theorem scanF_at : ∀ (f i : Nat) (s : List UInt8), ∀ p ∈ scanF f i s, (i : Int) ≤ p.a ∧ p.a ≤ (i : Int) + s.length
  | 0, _, _ => by simp [scanF]
  | _ + 1, _, [] => by simp [scanF]
  | f + 1, i, b :: r => by
    intro p hp
    unfold scanF at hp
    split at hp
    · have := scanF_at f (i + 1) r p hp
      simp only [List.length_cons]
      push_cast at *
      omega
    · rcases List.mem_cons.1 hp with rfl | hp
      · exact pieceM_at _ _ _
      · split at hp
        · cases hp
        · have h1 := scanF_at f _ _ p hp
          have h2 := pieceM_len i b r
          rw [List.length_drop] at h1
          push_cast at *
          omega
theorem scanM_at {s : List UInt8} {p : Pc} (h : p ∈ scanM s) : 0 ≤ p.a ∧ p.a ≤ s.length := by
  have := scanF_at _ _ _ p h
  omega
theorem keptOf_len (want : Int → Bool) (l : Int) (ps : List Pc) : (keptOf want l ps).length ≤ ps.length := by
  simp only [keptOf, List.length_map]
  exact List.length_filter_le _ _
theorem keptOf_snoc (want : Int → Bool) (l : Int) (ps : List Pc) (p : Pc) : keptOf want l (ps ++ [p]) = keptOf want l ps ++ if want p.k then [tokOf l p] else [] := by
  simp only [keptOf, List.filter_append, List.map_append, List.filter_cons, List.filter_nil]
  split <;> simp
theorem errOf_cons {d : List Pc} (hd : errOf d = none) (p : Pc) (ps : List Pc) (hp : p.e ≠ 0) : errOf (d ++ p :: ps) = some p := by
  simp only [errOf, List.find?_append] at *
  simp [hd, List.find?_cons, hp]
theorem errOf_snoc {d : List Pc} (hd : errOf d = none) (p : Pc) (hp : p.e = 0) : errOf (d ++ [p]) = none := by
  simp only [errOf, List.find?_append] at *
  simp [hd, List.find?_cons, hp]

theorem f_read {wf : FuncId} {want : Int → Bool} (hw : ∀ k : Int, F Γd wf [.d (.int .i64 k)] (.d (.bool (want k)))) (lines : List (List UInt8)) (first : Int) (h1 : 0 ≤ first ∧ first ≤ 1000000) (hs : (lines.map List.length).sum ≤ 100000000) (hl : lines.length ≤ 100000000) :
    F Γd 48 [.d (.slice (strsD lines)), .d (.int .i64 first), .fn wf [] []] (readP (readM want first lines [])) := by
  refine fn_of c48 rfl (by simp only [Env.of, List.zipIdx, List.map]; rfl) ?_
  have hln := strsD_length lines
  have hl2 : (strsD lines).length ≤ 4294967296 := by omega
  repeat' (first | refine dr ?_ | (refine ds ?_ ?_ <;> intro hb) | ((with_reducible refine dbm ?_); first | exact db_nil | refine dbc ?_ ?_) | ((with_reducible refine natle ?_); first | assumption | omega | (simp; omega)))
  refine LP_for lines (fun i (acc : List Tok) => [(4, .ptr 0 0), (5, .ptr 1 0), (6, .ptr 2 0), (7, .ptr 3 0), (8, .ptr 4 0), (9, .ptr 5 0), (13, .d (.slice (strsD lines))), (14, .d (.int .i64 lines.length)), (15, .d (.int .i64 i))])
    (fun i acc => [.box 3 [.d (.int .i64 first)], .box 97 [.fn wf [] []], .box 52 [.snil], .box 23 [.d (.int .i64 0), .d (.int .i64 0)], .box 29 [.d (.int .i64 0)], .box 52 [.lref 6 acc.length], .lst (57, 4) (toksD acc)])
    (fun i acc => readM want (first + i) (lines.drop i) acc = readM want first lines [] ∧ acc.length ≤ ((lines.take i).map List.length).sum) [] ?_ rfl ⟨by simp, by simp⟩ ?_ ?_
  · (first | (simp [Env.shr, Env.get, PV.exp, PV.ids, PV.ids.idsL]; done) | simp [Env.shr, Env.get, PV.exp, PV.ids, PV.ids.idsL, *])
  · rintro i x acc hx hi ⟨hI, hacc⟩ ih
    have hxs : (strsD lines)[i]? = some [.str x] := strsD_at hx
    have hdr : lines.drop i = x :: lines.drop (i + 1) := by
      rw [List.drop_eq_getElem_cons hi]
      congr 1
      have := List.getElem?_eq_getElem hi
      rw [hx] at this
      exact (Option.some.inj this).symm
    rw [hdr] at hI
    have hsum : ((lines.take (i + 1)).map List.length).sum = ((lines.take i).map List.length).sum + x.length := by
      rw [List.take_add_one, hx]
      simp
    have hle : ((lines.take (i + 1)).map List.length).sum ≤ (lines.map List.length).sum := by
      conv => rhs; rw [← List.take_append_drop (i + 1) lines]
      rw [List.map_append, List.sum_append]
      omega
    have hxl : x.length ≤ 4294967296 := by omega
    have hxsc := scanM_len x
    have hpc := f_pieces x
    simp only [readM] at hI
    repeat' (first | (refine orf (it_pieces x hxl) ?_) | ((with_reducible refine wcm ?_); first | refine cF (hpc) ?_) | refine dr ?_ | (refine ds ?_ ?_ <;> intro hb) | ((with_reducible refine dbm ?_); first | exact db_nil | refine dbc ?_ ?_) | ((with_reducible refine natle ?_); first | assumption | omega | (simp; omega)))
    refine rfK_ind (β := Pc) Pc.row (fun (ac : List Tok) => [.box 3 [.d (.int .i64 first)], .box 97 [.fn wf [] []], .box 52 [.snil], .box 23 [.d (.int .i64 0), .d (.int .i64 0)], .box 29 [.d (.int .i64 0)], .box 52 [.lref 6 ac.length], .lst (57, 4) (toksD ac), .box 3 [.d (.int .i64 i)]])
      (fun ps ac => ∃ done, scanM x = done ++ ps ∧ ac = acc ++ keptOf want (first + i) done ∧ errOf done = none) (scanM x) acc rfl ⟨[], by simp, by simp [keptOf], rfl⟩ ?_ ?_
    · rintro ac ⟨done, hd1, rfl, hd2⟩
      rw [List.append_nil] at hd1
      rw [← hd1] at hd2
      rw [hd2] at hI
      simp only at hI
      rw [hd1] at hI
      have hkl := keptOf_len want (first + i) done
      rw [hd1] at hxsc
      have hlt : ((i : Int)) < lines.length := by omega
      repeat' (first | refine dr ?_ | (refine ds ?_ ?_ <;> intro hb) | ((with_reducible refine dbm ?_); first | exact db_nil | refine dbc ?_ ?_) | ((with_reducible refine natle ?_); first | assumption | omega | (simp; omega)))
      refine LP_at ?_ rfl (ih (acc ++ keptOf want (first + i) done) ⟨?_, ?_⟩)
      · (first | (simp [Env.shr, Env.get, PV.exp, PV.ids, PV.ids.idsL]; done) | simp [Env.shr, Env.get, PV.exp, PV.ids, PV.ids.idsL, *])
      · rw [← hI, Int.natCast_add, Int.natCast_one, Int.add_assoc]
      · rw [List.length_append]; omega
    · rintro p ps ac ⟨done, hd1, hd3, hd2⟩ Nx hNx
      have hpm : p ∈ scanM x := by rw [hd1]; simp
      obtain ⟨hpa1, hpa2⟩ := scanM_at hpm
      have hac : ac.length ≤ 100000000 := by
        have := keptOf_len want (first + i) done
        rw [hd1] at hxsc
        simp only [List.length_append, List.length_cons] at hxsc
        rw [hd3, List.length_append]
        omega
      have hlt : ((i : Int)) < lines.length := by omega
      have hall := toksD_len ac
      have hlen := toksD_length ac
      clear hln hl2 hle hsum hdr hacc
      by_cases he : p.e = 0
      · have hres : ∀ t, t = (if want p.k then [tokOf (first + i) p] else []) → ∃ done, scanM x = done ++ ps ∧ ac ++ t = acc ++ keptOf want (first + i) done ∧ errOf done = none := fun t ht =>
          ⟨done ++ [p], by rw [hd1]; simp, by rw [keptOf_snoc, hd3, ht, List.append_assoc], errOf_snoc hd2 p he⟩
        clear hd1 hd3 hI ih
        have hwp := hw p.k
        cases hwk : want p.k with
        | true =>
          rw [hwk] at hwp hres
          repeat' (first | ((with_reducible refine wcm ?_); first | refine cF (hwp) ?_) | refine dr ?_ | (refine ds ?_ ?_ <;> intro hb) | ((with_reducible refine dbm ?_); first | exact db_nil | refine dbc ?_ ?_) | ((with_reducible refine natle ?_); first | assumption | omega | (simp; omega)))
          refine hNx (ac ++ [tokOf (first + i) p]) _ (hres _ rfl) ?_
          simp [shrink, Ent.exp, PV.exp, PV.ids, PV.ids.idsL, toksD, Tok.row, tokOf]
        | false =>
          rw [hwk] at hwp hres
          repeat' (first | ((with_reducible refine wcm ?_); first | refine cF (hwp) ?_) | refine dr ?_ | (refine ds ?_ ?_ <;> intro hb) | ((with_reducible refine dbm ?_); first | exact db_nil | refine dbc ?_ ?_) | ((with_reducible refine natle ?_); first | assumption | omega | (simp; omega)))
          refine hNx ac _ (by simpa using hres [] rfl) ?_
          simp [shrink, Ent.exp, PV.exp, PV.ids, PV.ids.idsL]
      · rw [hd1, errOf_cons hd2 p ps he] at hI
        simp only at hI
        rw [← hI]
        clear hd1 hd3 hI ih
        repeat' (first | (refine rk_ret ?_) | refine dr ?_ | (refine ds ?_ ?_ <;> intro hb) | ((with_reducible refine dbm ?_); first | exact db_nil | refine dbc ?_ ?_) | ((with_reducible refine natle ?_); first | assumption | omega | (simp; omega)))
        all_goals simp [readP, toksD]
  · rintro acc ⟨hI, hacc⟩
    rw [List.drop_length] at hI
    simp only [readM] at hI
    rw [← hI]
    repeat' (first | refine dr ?_ | (refine ds ?_ ?_ <;> intro hb) | ((with_reducible refine dbm ?_); first | exact db_nil | refine dbc ?_ ?_) | ((with_reducible refine natle ?_); first | assumption | omega | (simp; omega)))
    have ht : (toksD acc).take acc.length = toksD acc := List.take_of_length_le (by rw [toksD_length]; exact Nat.le_refl _)
    simp [readP, ht]
end Go.Plane
end
section
set_option linter.unusedVariables false
set_option linter.unusedSimpArgs false
set_option maxRecDepth 100000
set_option maxHeartbeats 1000000
namespace Go.Plane
open Go Go.Proofs
theorem splitL_sum (c : UInt8) : ∀ s : List UInt8, ((splitL c s).map List.length).sum ≤ s.length
  | [] => by simp [splitL]
  | b :: s => by
    have ih := splitL_sum c s
    simp only [splitL]
    split
    · simp; omega
    · split
      · rename_i h; rw [h] at ih; simp at ih ⊢; omega
      · simp
def isTok (k : Int) : Bool := k != 6
def isNote (k : Int) : Bool := k == 6
def tokensM (s : List UInt8) : List Tok × Int × Int × Int :=
  if 20000 < s.length then ([], 0, 0, 3)
  else if (readM isTok 1 (splitL 10 s) []).2.2.2 = 0 ∧ 6000 < (readM isTok 1 (splitL 10 s) []).1.length then ([], 0, 0, 3)
  else readM isTok 1 (splitL 10 s) []
theorem f_Tokens (s : List UInt8) (hs : s.length ≤ 4294967296) : F Γd 22 [.d (.str s)] (readP (tokensM s)) := by
  refine fn_of c22 rfl (by simp only [Env.of, List.zipIdx, List.map]; rfl) ?_
  by_cases hl : 20000 < s.length
  · have h : tokensM s = ([], 0, 0, 3) := by unfold tokensM; rw [if_pos hl]
    rw [h]
    repeat' (first | refine dr ?_ | (refine ds ?_ ?_ <;> intro hb) | ((with_reducible refine dbm ?_); first | exact db_nil | refine dbc ?_ ?_) | ((with_reducible refine natle ?_); first | assumption | omega | (simp; omega)))
    all_goals (simp [readP, toksD]; done)
  · have hsp := F_Split s 10 (by omega)
    have hsum := splitL_sum 10 s
    have hcnt : s.count 10 ≤ s.length := List.count_le_length
    have hlen := splitL_length 10 s
    have hrd := f_read (want := isTok) (fun k => f_token k) (splitL 10 s) 1 (by omega) (by omega) (by omega)
    have h : tokensM s = if (readM isTok 1 (splitL 10 s) []).2.2.2 = 0 ∧ 6000 < (readM isTok 1 (splitL 10 s) []).1.length then ([], 0, 0, 3) else readM isTok 1 (splitL 10 s) [] := by unfold tokensM; rw [if_neg hl]
    rw [h]
    generalize readM isTok 1 (splitL 10 s) [] = r at *
    have htl := toksD_length r.1
    clear h hsum hcnt hlen
    by_cases hc : r.2.2.2 = 0 ∧ 6000 < r.1.length
    · rw [if_pos hc]
      obtain ⟨hc1, hc2⟩ := hc
      repeat' (first | ((with_reducible refine wcm ?_); first | refine cF (hsp) ?_ | refine cF (hrd) ?_) | refine dr ?_ | (refine ds ?_ ?_ <;> intro hb) | ((with_reducible refine dbm ?_); first | exact db_nil | refine dbc ?_ ?_) | ((with_reducible refine natle ?_); first | assumption | omega | (simp; omega)))
      all_goals (simp [readP, toksD]; done)
    · rw [if_neg hc]
      repeat' (first | ((with_reducible refine wcm ?_); first | refine cF (hsp) ?_ | refine cF (hrd) ?_) | refine dr ?_ | (refine ds ?_ ?_ <;> intro hb) | ((with_reducible refine dbm ?_); first | exact db_nil | refine dbc ?_ ?_) | ((with_reducible refine natle ?_); first | assumption | omega | (simp; omega)))
      all_goals first | (exfalso; exact hc ⟨by omega, by omega⟩) | (simp [readP, toksD, *]; done)
/-- The comments, or the error. -/
def notesM (s : List UInt8) : List Tok × Int := if (tokensM s).2.2.2 ≠ 0 then ([], (tokensM s).2.2.2) else ((readM isNote 1 (splitL 10 s) []).1, 0)
theorem f_Comments (s : List UInt8) (hs : s.length ≤ 4294967296) : F Γd 31 [.d (.str s)] (.tup [.d (.slice (toksD (notesM s).1)), .d (.int .i64 (notesM s).2)]) := by
  refine fn_of c31 rfl (by simp only [Env.of, List.zipIdx, List.map]; rfl) ?_
  have htk := f_Tokens s hs
  by_cases he : (tokensM s).2.2.2 = 0
  · have hl : ¬20000 < s.length := by
      intro h
      unfold tokensM at he
      rw [if_pos h] at he
      simp at he
    have hsp := F_Split s 10 (by omega)
    have hsum := splitL_sum 10 s
    have hcnt : s.count 10 ≤ s.length := List.count_le_length
    have hlen := splitL_length 10 s
    have hrd := f_read (want := isNote) (fun k => f_note k) (splitL 10 s) 1 (by omega) (by omega) (by omega)
    have h : notesM s = ((readM isNote 1 (splitL 10 s) []).1, 0) := by unfold notesM; rw [if_neg (by simp [he])]
    rw [h]
    generalize tokensM s = t at *
    generalize readM isNote 1 (splitL 10 s) [] = r at *
    clear h hsum hcnt hlen
    repeat' (first | ((with_reducible refine wcm ?_); first | refine cF (htk) ?_ | refine cF (hsp) ?_ | refine cF (hrd) ?_) | refine dr ?_ | (refine ds ?_ ?_ <;> intro hb) | ((with_reducible refine dbm ?_); first | exact db_nil | refine dbc ?_ ?_) | ((with_reducible refine natle ?_); first | assumption | omega | (simp; omega)))
    all_goals (simp [toksD]; done)
  · have h : notesM s = ([], (tokensM s).2.2.2) := by unfold notesM; rw [if_pos he]
    rw [h]
    generalize tokensM s = t at *
    repeat' (first | ((with_reducible refine wcm ?_); first | refine cF (htk) ?_) | refine dr ?_ | (refine ds ?_ ?_ <;> intro hb) | ((with_reducible refine dbm ?_); first | exact db_nil | refine dbc ?_ ?_) | ((with_reducible refine natle ?_); first | assumption | omega | (simp; omega)))
    all_goals (simp [toksD]; done)
end Go.Plane
end
section
set_option linter.unusedVariables false
set_option linter.unusedSimpArgs false
set_option maxRecDepth 100000
set_option maxHeartbeats 2000000
namespace Go.Plane
open Go Go.Proofs
theorem sameTok_kt (a b : Tok) : sameTokM a b = decide (a.kt = b.kt) := by
  unfold sameTokM Tok.kt
  rw [Bool.eq_iff_iff]
  simp
theorem f_EqualFunc (a b : List Tok) (ha : a.length ≤ 4294967296) (hb : b.length ≤ 4294967296) : F Γd 71 [.d (.slice (toksD a)), .d (.slice (toksD b)), .fn 72 [] []] (.d (.bool (sameK a b))) := by
  refine fn_of c71 rfl (by simp only [Env.of, List.zipIdx, List.map]; rfl) ?_
  have l1 := toksD_length a
  have l2 := toksD_length b
  by_cases hl : a.length = b.length
  case neg =>
    have hm := sameK_len hl
    repeat' (first | refine dr ?_ | (refine ds ?_ ?_ <;> intro hb) | ((with_reducible refine dbm ?_); first | exact db_nil | refine dbc ?_ ?_) | ((with_reducible refine natle ?_); first | assumption | omega | (simp; omega)))
    rw [hm]
    exact ⟨rfl, rfl⟩
  have hl' : (a.length : Int) = b.length := by omega
  repeat' (first | refine dr ?_ | (refine ds ?_ ?_ <;> intro hb) | ((with_reducible refine dbm ?_); first | exact db_nil | refine dbc ?_ ?_) | ((with_reducible refine natle ?_); first | assumption | omega | (simp; omega)))
  refine LP_for a (fun i _ => [(1, .d (.slice (toksD b))), (2, .fn 72 [] []), (15, .d (.slice (toksD a))), (16, .d (.int .i64 a.length)), (17, .d (.int .i64 i))]) (fun _ _ => []) (fun i (_ : Unit) => (a.take i).map Tok.kt = (b.take i).map Tok.kt) () ?_ rfl (by simp) ?_ ?_
  · (first | (simp [Env.shr, Env.get, PV.exp, PV.ids, PV.ids.idsL]; done) | simp [Env.shr, Env.get, PV.exp, PV.ids, PV.ids.idsL, *])
  · rintro i x _ hi hlt hI ih
    have hy := List.getElem?_eq_getElem (show i < b.length by omega)
    generalize b[i] = y at hy
    have r1 := toksD_at hi
    have r2 := toksD_at hy
    clear hl
    have heq := f_equal x y
    cases he : sameTokM x y with
    | true =>
      rw [he] at heq
      have hkt : x.kt = y.kt := by rw [sameTok_kt] at he; exact of_decide_eq_true he
      repeat' (first | ((with_reducible refine wcm ?_); first | refine cF (heq) ?_) | refine dr ?_ | (refine ds ?_ ?_ <;> intro hb) | ((with_reducible refine dbm ?_); first | exact db_nil | refine dbc ?_ ?_) | ((with_reducible refine natle ?_); first | assumption | omega | (simp; omega)))
      refine LP_at ?_ rfl (ih () (map_take_succ Tok.kt hi hy hI hkt))
      (first | (simp [Env.shr, Env.get, PV.exp, PV.ids, PV.ids.idsL]; done) | simp [Env.shr, Env.get, PV.exp, PV.ids, PV.ids.idsL, *])
    | false =>
      rw [he] at heq
      have hkt : x.kt ≠ y.kt := by rw [sameTok_kt] at he; exact of_decide_eq_false he
      have : sameK a b = false := decide_eq_false (map_ne Tok.kt hi hy hkt)
      repeat' (first | ((with_reducible refine wcm ?_); first | refine cF (heq) ?_) | refine dr ?_ | (refine ds ?_ ?_ <;> intro hb) | ((with_reducible refine dbm ?_); first | exact db_nil | refine dbc ?_ ?_) | ((with_reducible refine natle ?_); first | assumption | omega | (simp; omega)))
      simp [this]
  · rintro _ hI
    have : sameK a b = true := decide_eq_true (list_ext_take Tok.kt hl (Nat.le_refl _) hI)
    repeat' (first | refine dr ?_ | (refine ds ?_ ?_ <;> intro hb) | ((with_reducible refine dbm ?_); first | exact db_nil | refine dbc ?_ ?_) | ((with_reducible refine natle ?_); first | assumption | omega | (simp; omega)))
    simp [this]

theorem f_joined (ls : List (List Tok)) (hl : ls.length ≤ 1000000) (ht : ls.flatten.length ≤ 1000000) : F Γd 52 [.d (.slice (ls.map fun l => [.slice (toksD l)]))] (.d (.slice (toksD ls.flatten))) := by
  refine fn_of c52 rfl (by simp only [Env.of, List.zipIdx, List.map]; rfl) ?_
  have l1 : (ls.map fun l => [D.slice (toksD l)]).length = ls.length := by simp
  repeat' (first | refine dr ?_ | (refine ds ?_ ?_ <;> intro hb) | ((with_reducible refine dbm ?_); first | exact db_nil | refine dbc ?_ ?_) | ((with_reducible refine natle ?_); first | assumption | omega | (simp; omega)))
  refine LP_for ls (fun i (acc : List Tok) => [(3, .lref 0 acc.length), (6, .d (.slice (ls.map fun l => [.slice (toksD l)]))), (7, .d (.int .i64 ls.length)), (8, .d (.int .i64 i))]) (fun i acc => [.lst (57, 4) (toksD acc)]) (fun i acc => acc = (ls.take i).flatten) [] ?_ rfl (by simp) ?_ ?_
  · (first | (simp [Env.shr, Env.get, PV.exp, PV.ids, PV.ids.idsL]; done) | simp [Env.shr, Env.get, PV.exp, PV.ids, PV.ids.idsL, *])
  · rintro i x acc hi hlt rfl ih
    have r1 : (ls.map fun l => [D.slice (toksD l)])[i]? = some [.slice (toksD x)] := by rw [List.getElem?_map, hi]; rfl
    have hn : (ls.take (i + 1)).flatten = (ls.take i).flatten ++ x := by rw [List.take_add_one, hi]; simp
    have hb : (ls.take (i + 1)).flatten.length ≤ ls.flatten.length := by
      conv => rhs; rw [← List.take_append_drop (i + 1) ls]
      rw [List.flatten_append, List.length_append]
      omega
    rw [hn, List.length_append] at hb
    have e1 := toksD_len x
    have e2 := toksD_len (ls.take i).flatten
    have e3 := toksD_length x
    have e4 := toksD_length (ls.take i).flatten
    generalize (ls.take i).flatten = acc at *
    repeat' (first | refine dr ?_ | (refine ds ?_ ?_ <;> intro hb) | ((with_reducible refine dbm ?_); first | exact db_nil | refine dbc ?_ ?_) | ((with_reducible refine natle ?_); first | assumption | omega | (simp; omega)))
    refine LP_at ?_ ?_ (ih (acc ++ x) hn.symm)
    · (first | (simp [Env.shr, Env.get, PV.exp, PV.ids, PV.ids.idsL]; done) | simp [Env.shr, Env.get, PV.exp, PV.ids, PV.ids.idsL, *])
    · simp [toksD_append, shrink, Ent.exp]
  · rintro acc rfl
    rw [List.take_length]
    have ht2 : (toksD ls.flatten).take ls.flatten.length = toksD ls.flatten := List.take_of_length_le (by rw [toksD_length]; exact Nat.le_refl _)
    repeat' (first | refine dr ?_ | (refine ds ?_ ?_ <;> intro hb) | ((with_reducible refine dbm ?_); first | exact db_nil | refine dbc ?_ ?_) | ((with_reducible refine natle ?_); first | assumption | omega | (simp; omega)))
    simp [ht2]

def rightM (t : Tok) : Bool := decide ((shapeM t.s).2 = 0 ∧ (shapeM t.s).1 = t.k ∧ t.k ≠ 6)
theorem f_right (t : Tok) (hs : t.s.length ≤ 4294967296) : F Γd 86 [.agg t.row] (.d (.bool (rightM t))) := by
  refine fn_of c86 rfl (by simp only [Env.of, List.zipIdx, List.map]; rfl) ?_
  have hsh := f_Shape t.s hs
  have h6 : (t.k != 6) = !decide (t.k = 6) := by rw [Bool.eq_iff_iff]; simp
  repeat' (first | ((with_reducible refine wcm ?_); first | refine cF (hsh) ?_) | refine dr ?_ | (refine ds ?_ ?_ <;> intro hb) | ((with_reducible refine dbm ?_); first | exact db_nil | refine dbc ?_ ?_) | ((with_reducible refine natle ?_); first | assumption | omega | (simp; omega)))
  all_goals first | (simp [rightM, *]; done) | (simp [rightM, h6, *]; done)
theorem f_write1 (t : Tok) (hs : t.s.length ≤ 4294967296) : F Γd 85 [.agg t.row] (.d (.bool (!rightM t))) := by
  refine fn_of c85 rfl (by simp only [Env.of, List.zipIdx, List.map]; rfl) ?_
  have hr := f_right t hs
  repeat' (first | ((with_reducible refine wcm ?_); first | refine cF (hr) ?_) | refine dr ?_ | (refine ds ?_ ?_ <;> intro hb) | ((with_reducible refine dbm ?_); first | exact db_nil | refine dbc ?_ ?_) | ((with_reducible refine natle ?_); first | assumption | omega | (simp; omega)))
  all_goals (simp [*]; done)
def needsM (a b : Tok) : Bool := decide ((readM isTok 1 [a.s ++ b.s] []).2.2.2 ≠ 0) || !sameK (readM isTok 1 [a.s ++ b.s] []).1 [a, b]
theorem f_needs (a b : Tok) (hs : a.s.length + b.s.length ≤ 100000000) (hr : (readM isTok 1 [a.s ++ b.s] []).1.length ≤ 4294967296) : F Γd 56 [.agg a.row, .agg b.row] (.d (.bool (needsM a b))) := by
  refine fn_of c56 rfl (by simp only [Env.of, List.zipIdx, List.map]; rfl) ?_
  have hrd := f_read (want := isTok) (fun k => f_token k) [a.s ++ b.s] 1 (by omega) (by simp; omega) (by simp)
  have hj := f_joined [[a], [b]] (by simp) (by simp)
  have heq := f_EqualFunc (readM isTok 1 [a.s ++ b.s] []).1 [a, b] hr (by simp)
  have hN : needsM a b = (decide ((readM isTok 1 [a.s ++ b.s] []).2.2.2 ≠ 0) || !sameK (readM isTok 1 [a.s ++ b.s] []).1 [a, b]) := rfl
  rw [hN]
  clear hN
  generalize readM isTok 1 [a.s ++ b.s] [] = r at *
  simp only [strsD, List.map, List.flatten, List.append_nil, List.cons_append, List.nil_append, toksD] at hrd hj heq
  by_cases he : r.2.2.2 = 0
  · repeat' (first | ((with_reducible refine wcm ?_); first | refine cF (hrd) ?_ | refine cF (hj) ?_ | refine cF (heq) ?_) | refine dr ?_ | (refine ds ?_ ?_ <;> intro hb) | ((with_reducible refine dbm ?_); first | exact db_nil | refine dbc ?_ ?_) | ((with_reducible refine natle ?_); first | assumption | omega | (simp; omega)))
    all_goals (simp [*]; done)
  · repeat' (first | ((with_reducible refine wcm ?_); first | refine cF (hrd) ?_ | refine cF (hj) ?_ | refine cF (heq) ?_) | refine dr ?_ | (refine ds ?_ ?_ <;> intro hb) | ((with_reducible refine dbm ?_); first | exact db_nil | refine dbc ?_ ?_) | ((with_reducible refine natle ?_); first | assumption | omega | (simp; omega)))
    all_goals (simp [*]; done)
end Go.Plane
end
section
set_option linter.unusedVariables false
set_option linter.unusedSimpArgs false
set_option maxRecDepth 100000
set_option maxHeartbeats 2000000
namespace Go.Plane
open Go Go.Proofs
def idxT (p : Tok → Bool) (l : List Tok) : Int := match l.findIdx? p with
  | some i => i
  | none => -1
theorem idxT_at {p : Tok → Bool} {l : List Tok} {i : Nat} {x : Tok} (hx : l[i]? = some x) (hp : p x = true) (hn : ∀ t ∈ l.take i, p t = false) : idxT p l = i := by
  have : l.findIdx? p = some i := by
    have hi := (List.getElem?_eq_some_iff.1 hx).1
    rw [List.findIdx?_eq_some_iff_getElem]
    refine ⟨hi, ?_, fun j hj => ?_⟩
    · rw [List.getElem?_eq_getElem hi] at hx; cases hx; exact hp
    · rw [hn _ (by rw [List.mem_take_iff_getElem]; exact ⟨j, by omega, rfl⟩)]; simp
  unfold idxT
  rw [this]
theorem idxT_none {p : Tok → Bool} {l : List Tok} (hn : ∀ t ∈ l, p t = false) : idxT p l = -1 := by
  have : l.findIdx? p = none := List.findIdx?_eq_none_iff.2 hn
  unfold idxT
  rw [this]
theorem idxT_any (p : Tok → Bool) (l : List Tok) : decide (0 ≤ idxT p l) = l.any p := by
  unfold idxT
  cases h : l.findIdx? p with
  | none =>
    have := List.findIdx?_eq_none_iff.1 h
    rw [show l.any p = false by rw [List.any_eq_false]; intro x hx; rw [this x hx]; simp]
    rfl
  | some i =>
    obtain ⟨h1, h2, _⟩ := List.findIdx?_eq_some_iff_getElem.1 h
    rw [show l.any p = true by rw [List.any_eq_true]; exact ⟨_, List.getElem_mem h1, h2⟩]
    simp
theorem f_IndexFuncT {wf : FuncId} {p : Tok → Bool} (l : List Tok) (hl : l.length ≤ 4294967296) (hp : ∀ t ∈ l, F Γd wf [.agg t.row] (.d (.bool (p t)))) :
    F Γd 115 [.d (.slice (toksD l)), .fn wf [] []] (.d (.int .i64 (idxT p l))) := by
  refine fn_of c115 rfl (by simp only [Env.of, List.zipIdx, List.map]; rfl) ?_
  have hln := toksD_length l
  repeat' (first | refine dr ?_ | (refine ds ?_ ?_ <;> intro hb) | ((with_reducible refine dbm ?_); first | exact db_nil | refine dbc ?_ ?_) | ((with_reducible refine natle ?_); first | assumption | omega | (simp; omega)))
  refine LP_for l (fun i _ => [(0, .d (.slice (toksD l))), (1, .fn wf [] []), (7, .d (.int .i64 l.length)), (8, .d (.int .i64 i))]) (fun _ _ => []) (fun i (_ : Unit) => ∀ t ∈ l.take i, p t = false) () ?_ rfl (by simp) ?_ ?_
  · (first | (simp [Env.shr, Env.get, PV.exp, PV.ids, PV.ids.idsL]; done) | simp [Env.shr, Env.get, PV.exp, PV.ids, PV.ids.idsL, *])
  · rintro i x _ hx hi hI ih
    have hr := toksD_at hx
    have hpx := hp x (List.mem_of_getElem? hx)
    cases hb : p x with
    | true =>
      rw [hb] at hpx
      have hv := idxT_at hx hb hI
      repeat' (first | ((with_reducible refine wcm ?_); first | refine cF (hpx) ?_) | refine dr ?_ | (refine ds ?_ ?_ <;> intro hb) | ((with_reducible refine dbm ?_); first | exact db_nil | refine dbc ?_ ?_) | ((with_reducible refine natle ?_); first | assumption | omega | (simp; omega)))
      simp [hv]
    | false =>
      rw [hb] at hpx
      repeat' (first | ((with_reducible refine wcm ?_); first | refine cF (hpx) ?_) | refine dr ?_ | (refine ds ?_ ?_ <;> intro hb) | ((with_reducible refine dbm ?_); first | exact db_nil | refine dbc ?_ ?_) | ((with_reducible refine natle ?_); first | assumption | omega | (simp; omega)))
      refine LP_at ?_ rfl (ih () fun t ht => ?_)
      · (first | (simp [Env.shr, Env.get, PV.exp, PV.ids, PV.ids.idsL]; done) | simp [Env.shr, Env.get, PV.exp, PV.ids, PV.ids.idsL, *])
      · rw [List.take_add_one, hx, List.mem_append] at ht
        rcases ht with ht | ht
        · exact hI t ht
        · simp at ht; subst ht; exact hb
  · rintro _ hI
    rw [List.take_length] at hI
    have hv := idxT_none hI
    repeat' (first | refine dr ?_ | (refine ds ?_ ?_ <;> intro hb) | ((with_reducible refine dbm ?_); first | exact db_nil | refine dbc ?_ ?_) | ((with_reducible refine natle ?_); first | assumption | omega | (simp; omega)))
    simp [hv]
theorem f_ContainsFuncT {wf : FuncId} {p : Tok → Bool} (l : List Tok) (hl : l.length ≤ 4294967296) (hp : ∀ t ∈ l, F Γd wf [.agg t.row] (.d (.bool (p t)))) :
    F Γd 84 [.d (.slice (toksD l)), .fn wf [] []] (.d (.bool (l.any p))) := by
  refine fn_of c84 rfl (by simp only [Env.of, List.zipIdx, List.map]; rfl) ?_
  have h := f_IndexFuncT l hl hp
  rw [← idxT_any p l]
  generalize idxT p l = n at *
  repeat' (first | ((with_reducible refine wcm ?_); first | refine cF (h) ?_) | refine dr ?_ | (refine ds ?_ ?_ <;> intro hb) | ((with_reducible refine dbm ?_); first | exact db_nil | refine dbc ?_ ?_) | ((with_reducible refine natle ?_); first | assumption | omega | (simp; omega)))
  all_goals (simp [*]; done)
theorem f_Write1 (a b : Tok) : F Γd 55 [.agg a.row, .agg b.row] (.d (.bool true)) := by
  refine fn_of c55 rfl (by simp only [Env.of, List.zipIdx, List.map]; rfl) ?_
  repeat' (first | refine dr ?_ | (refine ds ?_ ?_ <;> intro hb) | ((with_reducible refine dbm ?_); first | exact db_nil | refine dbc ?_ ?_) | ((with_reducible refine natle ?_); first | assumption | omega | (simp; omega)))
  exact ⟨rfl, rfl⟩

/-! ### Texts of tokens -/
def sepM (bl : Tok → Tok → Bool) : Option Tok → Tok → List UInt8
  | none, _ => []
  | some a, t => if bl a t then [32] else []
def joinTok (bl : Tok → Tok → Bool) : Option Tok → List Tok → List UInt8
  | _, [] => []
  | o, t :: l => sepM bl o t ++ t.s ++ joinTok bl (some t) l
def writeM (bl : Tok → Tok → Bool) (l : List Tok) : List UInt8 × Int :=
  if 6000 < l.length then ([], 3)
  else if l.any (fun t => !rightM t) then ([], 1)
  else if 20000 < (joinTok bl none l).length then ([], 3)
  else (joinTok bl none l, 0)
theorem joinTok_snoc (bl : Tok → Tok → Bool) (x : Tok) : ∀ (l : List Tok) (o : Option Tok), joinTok bl o (l ++ [x]) = joinTok bl o l ++ (sepM bl (l.getLast?.or o) x ++ x.s)
  | [], o => by simp [joinTok]
  | t :: l, o => by
    simp only [List.cons_append, joinTok, joinTok_snoc bl x l (some t)]
    rw [show (t :: l).getLast?.or o = l.getLast?.or (some t) by
      cases l with
      | nil => simp
      | cons y l =>
        simp only [List.getLast?_cons_cons]
        cases h : (y :: l).getLast? with
        | none => simp at h
        | some z => rfl]
    simp [List.append_assoc]
theorem joinTok_len (bl : Tok → Tok → Bool) : ∀ (l : List Tok) (o : Option Tok), (joinTok bl o l).length ≤ (l.map fun t => t.s.length + 1).sum
  | [], _ => by simp [joinTok]
  | t :: l, o => by
    have ih := joinTok_len bl l (some t)
    have : (sepM bl o t).length ≤ 1 := by
      unfold sepM
      split
      · simp
      · split <;> simp
    simp only [joinTok, List.length_append, List.map_cons, List.sum_cons]
    omega
end Go.Plane
end

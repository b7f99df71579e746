/- A part of the proof: the calculus over pure values, contracts of functions, and plain lemmas. -/
import Derived.Test.YtccejlonkoafgaaGreatDoorW1
import Derived.OrdersIn
import Derived.Scope
import Derived.RangeFuncRecord
import Derived.RangeFuncCalls
import Derived.RangeFuncIn
import Derived.RangeFuncLeaves
import Derived.Below
import Derived.Lib.Split
import Derived.Lib.CountLaws
import Derived.Lib.IndexMore
import Derived.Lib.LastIndexByte
import Derived.Lib.Bytealg
import Derived.Test.YtccejlonkoafgaaGreatDoorProg
import Derived.Lib.LaidTab
import Derived.Lib.Space
import Derived.Laws.StructEq
section
set_option linter.unusedVariables false
namespace Go.Plane
open Go

section
variable {Γ : Cfg} {M M' : Mem} {ρ ρ' : List Gh} {σ σ' : Store} {w w' : World} {N : Nat} {s : Start} {env : Env} {a : Act} {Q : Ex → Env → Store → Prop} {K : Env → Store → Prop}

theorem rep_old {v : Value} {p : PV} (h : Rep M ρ σ v p) {w' : World} (hs : Stp Γ M ρ σ w M' ρ' σ' w') : Rep M' ρ' σ' v p := h.tr_id hs.ext.mono fun i _ => hs.tr i

/-- A list that is one's own from here on. -/
theorem own_sound (h : WR Γ N s M ρ env σ a w) {t : Nat} {sz : TypeId × Nat} (ht : t < N) (hK : stepOwn σ env t sz K) : ∃ ρ' env' σ', WR Γ N s M ρ' env' σ' a w ∧ K env' σ' := by
  have hrel := h.stp.rel
  have hr := h.env t
  have go : ∀ (v : Value) (xs : List (List D)), a.tmps.getD t Go.undef = v → LstOk M w v sz xs → (Gh.cur v).block = none → WR Γ N s M (ρ ++ [.cur v]) (env.put t (.lref σ.length xs.length)) (σ ++ [.lst sz xs]) a w := by
    intro v xs hv hl hb
    have hst := stp_own hrel hl hb
    refine h.ghost hst (by simp) (fun t' => ?_) (.inl (by have := h.nN; simp only [Env.put, Env.get]; rw [if_neg (by omega)]))
    simp only [Env.put, Env.get]
    split
    · rename_i he
      subst he
      rw [hv]
      exact rep_lref (sz := sz) (by simp) (by rw [← hrel.len]; simp) hl.1
    · exact rep_old (h.env t') hst
  unfold stepOwn at hK
  split at hK
  · rename_i he
    rw [he] at hr
    exact ⟨_, _, _, go _ [] hr.snil_inv (lstOk_nil M w sz) rfl, hK⟩
  · exact hK.elim

theorem ownb_sound (h : WR Γ N s M ρ env σ a w) {t off : Nat} {sz : TypeId × Nat} (hK : stepOwnB σ env t off sz (fun σ' => K env σ')) : ∃ ρ' env' σ', WR Γ N s M ρ' env' σ' a w ∧ K env' σ' := by
  have hrel := h.stp.rel
  have hr := h.env t
  unfold stepOwnB at hK
  split at hK
  case h_2 => exact hK.elim
  rename_i b o he
  split at hK
  case h_2 => exact hK.elim
  rename_i ty cs hcs
  split at hK
  case h_2 => exact hK.elim
  rename_i hc
  have hst := stp_own (sz := sz) hrel (lstOk_nil M w sz) rfl
  have hcs' : (σ ++ [Ent.lst sz []])[b]? = some (.box ty cs) := by rw [List.getElem?_append_left (List.getElem?_eq_some_iff.1 hcs).1]; exact hcs
  obtain ⟨blk, vs, e, h1, h2, h3, h4, h5⟩ := hst.rel.box b ty cs hcs'
  have hst2 := stp_setBox (cs' := cs.set (o + off) (.lref σ.length 0)) hst.rel hcs' h1 ⟨rfl, rfl, rfl, rfl, h2, fun _ _ => rfl⟩ ⟨_, h2⟩ (by simp) (by simp [h3]) (fun j v p hv hp => by
    by_cases hj : o + off = j
    · subst hj
      rw [List.getElem?_set_self (List.getElem?_eq_some_iff.1 hc).1] at hp
      cases hp
      have := (h4 _ v _ hv hc).snil_inv
      subst this
      exact rep_lref (sz := sz) (xs := []) (by simp) (by rw [← hrel.len]; simp) (lstOk_nil M w sz).1
    · rw [List.getElem?_set_ne hj] at hp
      exact h4 j v p hv hp)
  have hst3 := hst.trans hst2
  exact ⟨_, env, _, h.ghost hst3 (by simp) (fun t' => rep_old (h.env t') hst3) (.inl rfl), hK⟩

/-! ### Within the fence -/
theorem rowsIn_Fw {P : Program} {row : String} {args : Array Value} {w : World} {K : Value → World → Prop} (R : Option Nat) (n : Nat) (h : Rows P row args w K) : RowsIn (Fw R) n P row args w K :=
  fun c cs _ => let ⟨v, w', r, s⟩ := h c cs; ⟨v, w', r, stepsIn_wide.2 s⟩
theorem callsIn_Fw {P : Program} {f : FuncId} {args : Array Value} {w : World} {K : Ending → World → Prop} (R : Option Nat) (n : Nat) (h : Calls P f args w K) : CallsIn (Fw R) n P f args w K :=
  (callsIn_wide (n := n)).2 h

theorem wpOpIn_of {P : Program} {R : Option Nat} {n : Nat} {ops : Array Oper} {Q' : Exit → Act → World → Prop} (hQ : ¬LetsOut Q') (hd : noDefer ops = true) {i : Nat} {K0 K1 : Act → World → Prop} {a : Act} {w : World} (h : wpOp P ops Q' i K0 a w)
    (hK : ∀ a w, K0 a w → K1 a w) : wpOpIn (Fw R) n P ops Q' i K1 a w := by
  unfold wpOp at h
  unfold wpOpIn
  cases ho : ops[i]? with
  | none => simp only [ho] at h ⊢; exact hK _ _ h
  | some o =>
    simp only [ho] at h ⊢
    split
    · rename_i hw
      rw [if_pos hw] at h
      have h := h.resolve_right fun hc => hQ hc.2
      refine ⟨fun _ _ => trivial, ?_⟩
      have hnd : ∀ c, o.op ≠ .defer c := by
        intro c hc
        unfold noDefer at hd
        rw [Array.all_eq_true] at hd
        obtain ⟨hi, rfl⟩ := Array.getElem?_eq_some_iff.1 ho
        have := hd i hi
        rw [hc] at this
        cases this
      rw [Oper.semAt_eq _ _ _ hnd]
      unfold Oper.wp at h
      generalize (execOp a.eval o).run P w = r at h ⊢
      have hno : ∀ (a' : Nat), ((Fw R).depth.isSome = true → 1 ≤ a') := fun _ h => by simp [Fw, Fence.wide] at h
      cases r with
      | ok x w' =>
        cases x <;> simp only [Oper.upon] at h <;> simp only [Oper.uponIn] <;>
          first
            | exact hK _ _ h
            | exact ⟨hno _, callsIn_Fw R _ (h.mono fun e w'' he => by cases e <;> first | exact hK _ _ he | exact he)⟩
            | exact ⟨hno _, rowsIn_Fw R _ (h.mono fun _ _ he => hK _ _ he)⟩
            | exact h.elim
      | halt x w' => cases x <;> simp only [Oper.upon] at h <;> simp only [Oper.uponIn] <;> exact h
    · rename_i hw
      rw [if_neg hw] at h
      exact ⟨fun _ _ => trivial, hK _ _ h⟩

theorem wpAnyIn_of {P : Program} {R : Option Nat} {n : Nat} {ops : Array Oper} {Q' : Exit → Act → World → Prop} (hQ : ¬LetsOut Q') (hd : noDefer ops = true) : ∀ (fuel : Nat) (listed : Array Bool) (a : Act) (w : World),
    wpAny P .any ops Q' fuel listed a w → wpAnyIn (Fw R) n P .any ops Q' fuel listed a w
  | 0, _, _, _, h => h
  | fuel + 1, listed, _, _, h => ⟨h.1, fun i hi => wpOpIn_of hQ hd (h.2 i hi) fun a w h' => wpAnyIn_of hQ hd fuel _ a w h'⟩

theorem wpost_out : ¬LetsOut (WPost Γ N s Q) := by
  rintro ⟨a, w, M, ρ, env, σ, ex, _, h2, _⟩
  cases ex <;> exact h2.elim

/-! ### A yield -/
theorem Rel.keep (h : Rel Γ M ρ σ w) (hb : ∀ b ∈ blks ρ, w'.heap[b]? = w.heap[b]?) (hm : ∀ b o v, M b o = some v → w'.cell? ⟨b, o, none⟩ = some v) : Rel Γ M ρ σ w' where
  gl := h.gl
  mem := hm
  len := h.len
  inj := h.inj
  box := fun i ty cs hi => by
    obtain ⟨b, vs, e, h1, h2, h3⟩ := h.box i ty cs hi
    exact ⟨b, vs, e, h1, (hb b (mem_blks.2 ⟨i, _, h1, rfl⟩)).trans h2, h3⟩
  lst := fun i sz xs hi => by
    obtain ⟨v, h1, h2, h3, h4⟩ := h.lst i sz xs hi
    refine ⟨v, h1, h2, h3, fun a n cap hv hlt => ?_⟩
    obtain ⟨b', o, vs, e', fz, ha, hh, h5⟩ := h4 a n cap hv hlt
    exact ⟨b', o, vs, e', fz, ha, (hb b' (mem_blks.2 ⟨i, _, h1, by subst hv ha; rfl⟩)).trans hh, h5⟩

theorem valD_of {v : Value} {d : D} (h : RepD M v d) (hd : ∀ l, d ≠ .slice l) : v = valD d := by
  cases h with
  | int k n => rfl
  | bool b => rfl
  | str s l h hb => subst h; rfl
  | slice => exact absurd rfl (hd _)
theorem repDs_len {vs : List Value} {cs : List D} (h : RepDs M vs cs) (hd : ∀ d ∈ cs, ∀ l, d ≠ .slice l) : vs = cs.map valD := by
  apply List.ext_getElem?
  intro j
  rw [List.getElem?_map]
  cases hv : vs[j]? with
  | none => rw [List.getElem?_eq_none (by rw [← h.1]; exact List.getElem?_eq_none_iff.1 hv)]; rfl
  | some v =>
    have hj : j < cs.length := by rw [← h.1]; exact (List.getElem?_eq_some_iff.1 hv).1
    rw [List.getElem?_eq_getElem hj, Option.map_some, valD_of (h.2 j v _ hv (List.getElem?_eq_getElem hj)) (hd _ (List.getElem_mem hj))]
theorem cell_heap {a : Addr} {w w' : World} (h : w'.heap[a.block]? = w.heap[a.block]?) : w'.cell? a = w.cell? a := by
  unfold World.cell?
  rw [h]

theorem yld_sound {R : Option Nat} {n : Nat} {ops : Array Oper} {i : Nat} {o : Oper} (h : WR Γ N s M ρ env σ a w) (ho : ops[i]? = some o) {dst : Option Nat} {x y : Opd} (hc : chkY N o dst x y = true) (hK : wio Γ Q env σ K (.yld dst x y)) :
    wpOpIn (Fw R) n Γ.P ops (WPost Γ N s Q) i (fun a' w' => ∃ env' σ', WR Γ N s M ρ env' σ' a' w' ∧ K env' σ') a w := by
  simp only [chkY, Bool.and_eq_true] at hc
  obtain ⟨⟨h1, h2⟩, h3⟩ := hc
  split at h3
  case h_2 => cases h3
  rename_i f az ats hop
  simp only [Bool.and_eq_true] at h3
  obtain ⟨h3, h4⟩ := h3
  simp only [wio] at hK
  unfold stepY at hK
  split at hK
  case h_2 => exact hK.elim
  rename_i l cs k hx hy hcnt
  obtain ⟨rfl, hxs, hkt, hkf⟩ := hK
  have hrx := h.env0.rep _ _ h3
  rw [hx] at hrx
  have hev : a.eval f = .func (.yield Γ.Y.l) #[] #[] := by
    generalize a.eval f = v at hrx
    cases hrx
    rfl
  obtain ⟨hl, hr⟩ := h.env0.opds h4
  have hcs := Γ.Y.flat cs (List.mem_of_getElem? hxs)
  obtain ⟨z, has⟩ : ∃ z, az.toList = [z] := by
    have : az.toList.length = 1 := by simpa using hl
    exact List.length_eq_one_iff.1 this
  have hz := hr 0 (a.eval z) (y.val env) (by simp [has]) (by simp)
  rw [hy] at hz
  obtain ⟨hzv, hbd⟩ : a.eval z = .agg (cs.map valD).toArray ∧ ∀ d ∈ cs, ∀ s, d = .str s → (s.length : Int) ≤ 9223372036854775807 := by
    generalize a.eval z = v at hz
    cases hz with
    | agg vs _ hd =>
      refine ⟨by rw [repDs_len hd hcs], fun d hdm s hs => ?_⟩
      obtain ⟨j, hj, rfl⟩ := List.mem_iff_getElem.1 hdm
      have := hd.2 j _ _ (List.getElem?_eq_getElem (by rw [hd.1]; exact hj)) (List.getElem?_eq_getElem hj)
      rw [hs] at this
      generalize vs[j]'(by rw [hd.1]; exact hj) = u at this
      cases this
      assumption
  obtain ⟨Fp, Kp, hJ, hap, hF, hnil⟩ := h.aside.gh k hcnt
  have hrel := h.stp.rel
  obtain ⟨fn, tmps, assign, body, hyr, hround⟩ := Γ.Y.rd k Fp Kp w cs hJ hxs hbd (n - 1)
  unfold wpOpIn
  simp only [ho]
  have hg : o.guard = none := by simpa using h1
  rw [if_pos (by simp [Region.wanted, hg])]
  refine ⟨fun _ _ => trivial, ?_⟩
  rw [Oper.semAt_eq _ _ _ (by rw [hop]; simp)]
  have hrun : (execOp a.eval o).run Γ.P w = .ok (.round Γ.Y.l fn tmps assign body) w := by
    obtain ⟨d, op, ty, pos, after, guard⟩ := o
    simp only at hop
    subst hop
    have has' : az = #[z] := by apply Array.ext'; simp [has]
    subst has'
    simp only [execOp, resolve, hev, Deferred.ofValue, Sem.run_bind, Sem.run_pure, Result.andThen_ok, invoke]
    simpa [hzv] using hyr
  rw [hrun]
  refine ⟨fun h => by simp [Fw, Fence.wide] at h, ?_⟩
  refine RoundIn.mono (show RoundIn (Fw R) (n - 1) Γ.P Γ.Y.l fn tmps assign body w _ from hround) ?_
  rintro e w' ⟨b, Fp', Kp', rfl, hk, hB, hf', hk', ht, hff⟩
  have hmem : ∀ c o v, M c o = some v → w'.cell? ⟨c, o, none⟩ = some v := fun c o v hm => by
    rcases hap.m c o v hm with h5 | h5
    · rw [cell_heap (w := w) (hk.keep c ⟨hrel.mem_lt hm, h5⟩)]; exact hrel.mem c o v hm
    · exact hB c o v h5 (hrel.mem c o v hm)
  have hblk : ∀ c ∈ blks ρ, w'.heap[c]? = w.heap[c]? := fun c hc => by
    obtain ⟨j, g, hg, hgb⟩ := mem_blks.1 hc
    exact hk.keep c ⟨hrel.blk_lt hg hgb, hap.f c hc⟩
  have hrel' : Rel Γ M ρ σ w' := hrel.keep hblk hmem
  have hs := h.stp
  have hst : StpF Γ s.F s.M s.ρ s.σ s.w M ρ σ w' := ⟨hk.os.trans hs.os, hk.tape.trans hs.tape, hk.output.trans hs.output, Nat.le_trans hs.size hk.size,
    fun c h5 h6 h7 => (hk.keep c ⟨Nat.lt_of_lt_of_le h5 hs.size, fun hfc => (hF c hfc).elim h7 (by omega)⟩).trans (hs.keep c h5 h6 h7),
    hs.mono, hs.fresh, fun c s' hc => hk.shp c s' (hs.shp c s' hc), hrel', hs.blk, hs.tr⟩
  have hap' : Apart Γ.Y.B M ρ Fp' Kp' := ⟨fun c hc hfc => (hf' c hfc).elim (hap.f c hc) (by
      obtain ⟨j, g, hg, hgb⟩ := mem_blks.1 hc
      have := hrel.blk_lt hg hgb; omega), fun c hc hkc => (hk' c hkc).elim (hap.k c hc) (fun h8 => h8.elim (hap.f c hc) (by
      obtain ⟨j, g, hg, hgb⟩ := mem_blks.1 hc
      have := hrel.blk_lt hg hgb; omega)), fun c o v hm => (hap.m c o v hm).imp_left fun h5 h6 => (hf' c h6).elim h5 (by have := hrel.mem_lt hm; omega)⟩
  have fin : ∀ p, (∀ v, Rep M ρ σ v p) → (∀ k', p = .cnt k' → b = true ∧ k' = k + 1) → (p = .stp → b = false) → WR Γ N s M ρ ((env.putO dst (.d (.bool b))).put cntT p) σ (a.put o.dst (.bool b)) w' := by
    intro p hp hp1 hp2
    have hget : ((env.putO dst (.d (.bool b))).put cntT p).get cntT = p := by simp [Env.put, Env.get]
    refine ⟨hst, h.slen, h.len, ?_, ⟨fun k' hk' => ?_, fun hk' => ?_, ?_, Nat.le_trans h.aside.bm hk.size⟩, fun t => ?_, h.gw, h.nN⟩
    · have := h.size; cases o.dst <;> simp [Act.put, this]
    · rw [hget] at hk'
      obtain ⟨hb, rfl⟩ := hp1 k' hk'
      exact ⟨Fp', Kp', ht hb, hap', fun c hc => (hf' c hc).elim (hF c) fun h9 => .inr (Nat.le_trans hs.size h9), by rw [← hnil]; cases o.dst <;> rfl⟩
    · rw [hget] at hk'
      exact ⟨Fp', Kp', hff (hp2 hk'), hap', by rw [← hnil]; cases o.dst <;> rfl⟩
    · rw [show (a.put o.dst (.bool b)).defers = a.defers by cases o.dst <;> rfl]
      rw [hnil]
      exact ⟨[], rfl, List.nodup_nil, by simp⟩
    · simp only [Env.put, Env.get]
      split
      · exact hp _
      · generalize o.dst = od at h2
        unfold chkDst at h2
        split at h2
        · exact h.env t
        · simp only [Bool.and_eq_true, beq_iff_eq, decide_eq_true_eq] at h2
          obtain ⟨rfl, hd⟩ := h2
          simp only [Env.putO, Env.put, Env.get, Act.put]
          rw [getD_put (by rw [h.size]; exact hd)]
          split
          · exact .d _ _ (.bool b)
          · exact h.env t
        · cases h2
  cases b with
  | true => exact ⟨_, σ, fin (.cnt (k + 1)) (fun v => .cnt v _) (fun k' hk' => by cases hk'; exact ⟨rfl, rfl⟩) (fun hc => by cases hc), hkt⟩
  | false => exact ⟨_, σ, fin .stp (fun v => .stp v) (fun k' hk' => by cases hk') (fun _ => rfl), hkf⟩

theorem wops_sound {R : Option Nat} {n : Nat} {ops : Array Oper} (hd : noDefer ops = true) : ∀ (l : List Ac) (is : List Nat) (M : Mem) (ρ : List Gh) (env : Env) (σ : Store) (a : Act) (w : World), chkOps Γ.P Γ.E N ops is l = true → WR Γ N s M ρ env σ a w →
    wops Γ l Q env σ → wpOpsIn (Fw R) n Γ.P ops (WPost Γ N s Q) is a w
  | [], is, M, ρ, env, σ, a, w, hc, h, hK => by
    cases is with
    | nil => exact ⟨M, ρ, env, σ, .normal, h, trivial, hK⟩
    | cons i is => simp [chkOps] at hc
  | io :: r, is, M, ρ, env, σ, a, w, hc, h, hK => by
    have plain : ∀ (i : Nat) (is' : List Nat) (o : Oper), is = i :: is' → ops[i]? = some o → chkIO Γ.P Γ.E N ops o io = true → chkOps Γ.P Γ.E N ops is' r = true → wpOpsIn (Fw R) n Γ.P ops (WPost Γ N s Q) is a w := by
      intro i is' o he hi h1 h2
      subst he
      rw [wpOpsIn_cons]
      refine wpOpIn_of wpost_out hd (io_sound h hi h1 hK) ?_
      rintro a' w' ⟨M', ρ', env', σ', k1, k2, _, _⟩
      exact wops_sound hd r is' M' ρ' env' σ' a' w' h2 k1 k2
    have gen : (match is with
      | i :: is' => (match ops[i]? with
        | some o => chkIO Γ.P Γ.E N ops o io
        | none => false) && chkOps Γ.P Γ.E N ops is' r
      | [] => false) = true → wpOpsIn (Fw R) n Γ.P ops (WPost Γ N s Q) is a w := by
      intro hc
      cases is with
      | nil => cases hc
      | cons i is =>
        simp only [Bool.and_eq_true] at hc
        obtain ⟨h1, h2⟩ := hc
        split at h1
        case h_2 => cases h1
        rename_i o hi
        exact plain i is o rfl hi h1 h2
    cases io with
    | own t sz =>
      simp only [chkOps, Bool.and_eq_true, decide_eq_true_eq] at hc
      obtain ⟨ρ', env', σ', k1, k2⟩ := own_sound h hc.1 hK
      exact wops_sound hd r is M ρ' env' σ' a w hc.2 k1 k2
    | ownb t off sz =>
      simp only [chkOps] at hc
      obtain ⟨ρ', env', σ', k1, k2⟩ := ownb_sound h hK
      exact wops_sound hd r is M ρ' env' σ' a w hc k1 k2
    | q g d o => cases is <;> simp only [chkOps] at hc <;> first | (exact gen hc) | cases hc
    | e g d o => cases is <;> simp only [chkOps] at hc <;> first | (exact gen hc) | cases hc
    | call g d f az => cases is <;> simp only [chkOps] at hc <;> first | (exact gen hc) | cases hc
    | callv g d x az => cases is <;> simp only [chkOps] at hc <;> first | (exact gen hc) | cases hc
    | yld dst x y =>
      cases is with
      | nil => simp [chkOps] at hc
      | cons i is =>
        simp only [chkOps, Bool.and_eq_true] at hc
        obtain ⟨h1, h2⟩ := hc
        split at h1
        case h_2 => cases h1
        rename_i o hi
        rw [wpOpsIn_cons]
        refine wpOpIn_mono ?_ (yld_sound h hi h1 hK)
        rintro a' w' ⟨env', σ', k1, k2⟩
        exact wops_sound hd r is M ρ env' σ' a' w' h2 k1 k2
    | panic g x => cases is <;> simp only [chkOps] at hc <;> first | (exact gen hc) | cases hc

/-! ### Drawn orders -/
/-- What was captured when an operation was taken first. -/
structure Cap where
  i : Nat
  M : Mem
  ρ : List Gh
  w : World
  foot : List Nat

def Cap.S (c : Cap) : World → Prop := Sim c.M c.ρ c.w c.foot
structure CapOk (M : Mem) (ρ : List Gh) (c : Cap) (x : Nat × List Nat) : Prop where
  i : c.i = x.1
  foot : c.foot = x.2
  le : c.M.le M
  blk : ∀ (j b : Nat), c.ρ[j]? = some (.blk b) → ρ[j]? = some (.blk b)

def CapsOk (M : Mem) (ρ : List Gh) : List Cap → List (Nat × List Nat) → Prop
  | [], [] => True
  | c :: cs, x :: xs => CapOk M ρ c x ∧ CapsOk M ρ cs xs
  | _, _ => False

theorem CapsOk.later : ∀ {cs : List Cap} {L : List (Nat × List Nat)}, CapsOk M ρ cs L → M.le M' → (∀ (j b : Nat), ρ[j]? = some (.blk b) → ρ'[j]? = some (.blk b)) → CapsOk M' ρ' cs L
  | [], [], _, _, _ => trivial
  | c :: cs, x :: xs, h, hM, hρ => ⟨⟨h.1.i, h.1.foot, Mem.le_trans h.1.le hM, fun j b hb => hρ j b (h.1.blk j b hb)⟩, h.2.later hM hρ⟩
  | [], _ :: _, h, _, _ => h.elim
  | _ :: _, [], h, _, _ => h.elim

theorem caps_keep {ops : Array Oper} {i : Nat} {ws touch : List Nat} (hws : ws.all (fun j => waits ops i j) = true) (hmem : ∀ b o u, M' b o = some u → w'.cell? ⟨b, o, none⟩ = some u) (hM : M.le M')
    (ht : ∀ (j b : Nat), ρ[j]? = some (.blk b) → j ∉ touch → w'.heap[b]? = w.heap[b]?) : ∀ {cs : List Cap} {L : List (Nat × List Nat)}, CapsOk M ρ cs L → apartL ws touch L = true →
    ∀ jS ∈ cs.map (fun c => (c.i, c.S)), waits ops i jS.1 = false → jS.2 w → jS.2 w'
  | [], [], _, _, jS, hj, _, _ => by simp at hj
  | c :: cs, x :: xs, h, hap, jS, hj, hnw, hS => by
    simp only [apartL, Bool.and_eq_true, Bool.or_eq_true] at hap
    rcases List.mem_cons.1 hj with rfl | hj
    · refine ⟨fun b o u hm => hmem b o u (hM _ _ _ (h.1.le _ _ _ hm)), fun j hjf b hb => ?_⟩
      have hfo : c.foot = x.2 := h.1.foot
      have hni : j ∉ touch := by
        rcases hap.1 with hw | hd
        · have : waits ops i x.1 = true := by
            rw [List.all_eq_true] at hws
            exact hws _ (by simpa using hw)
          rw [← h.1.i] at this
          simp only at hnw
          rw [this] at hnw
          cases hnw
        · rw [List.all_eq_true] at hd
          have := hd j (by rw [← hfo]; exact hjf)
          simpa using this
      rw [ht j b (h.1.blk j b hb) hni]
      exact hS.2 j hjf b hb
    · exact caps_keep hws hmem hM ht h.2 hap.2 jS hj hnw hS
  | [], _ :: _, h, _, _, _, _, _ => h.elim
  | _ :: _, [], h, _, _, _, _, _ => h.elim

/-- A quiet step, az the orders' law wants it. -/
theorem q_yields (h : WR Γ N s M ρ env σ a w) {ops : Array Oper} {o : Oper} {io : Ac} (hq : isQ io = true) (hc : chkIO Γ.P Γ.E N ops o io = true) (hK : wio Γ Q env σ K io) :
    ∃ v env', YieldsIf Γ.P ops (Sim M ρ w (footOf env io)) o v a ∧ WR Γ N s M ρ env' σ (a.put o.dst v) w ∧ K env' σ := by
  have henv := h.env0
  have hrel := h.stp.rel
  cases io <;> simp only [isQ] at hq <;> try (cases hq; done)
  rename_i g dst q
  simp only [chkIO, Bool.and_eq_true] at hc
  obtain ⟨⟨h1, h2⟩, h3⟩ := hc
  simp only [wio] at hK
  obtain ⟨env', h', hgd, hval⟩ := guard_wanted h h1 hK
  have hv' : Opd.val env' = Opd.val env := funext hval
  rcases hgd with ⟨hw, hk⟩ | ⟨hw, hk⟩
  · obtain ⟨p, hp, hk⟩ := optK_spec hk
    obtain ⟨v, hv, hrun⟩ := evq_sound hrel h'.env0 h3 hp
    exact ⟨v, _, .inl ⟨hw, fun w' hs => hrun w' (by rw [hv']; exact hs)⟩, h'.step (Stp.refl hrel) (Nat.le_refl _) hv h2, hk⟩
  · exact ⟨Go.undef, _, .inr ⟨hw, rfl⟩, h'.step (Stp.refl hrel) (Nat.le_refl _) (.tup [] [] rfl (by simp)) h2, hk⟩

theorem wpost_panic (c : List PanicEntry) (a : Act) (dst : Option Tmp) (v : Value) (w : World) (h : WPost Γ N s Q (.panic c) (a.put dst v) w) : WPost Γ N s Q (.panic c) a w := by
  obtain ⟨M, ρ, env, σ, ex, h1, h2, h3⟩ := h
  cases ex <;> try exact h2.elim
  rename_i p
  obtain ⟨rfl, h2⟩ := h2
  have hs : a.tmps.size = N := by have := h1.size; cases dst <;> simpa [Act.put] using this
  have hd : Aside Γ s.F s.Bm s.w.heap.size M ρ [] a.defers w := by have := h1.aside; cases dst <;> exact this
  exact ⟨M, ρ, [], σ, .panic p, ⟨h1.stp, h1.slen, h1.len, hs, hd, fun t => .undef _, h1.gw, h1.nN⟩, ⟨rfl, h2⟩, h3⟩

mutual
theorem wdt_sound {ops : Array Oper} (hsel : Region.noSelect ops = true) : ∀ (t : DT) (listed : Array Bool) (fuel : Nat) (cs : List Cap) (L : List (Nat × List Nat)) (M : Mem) (ρ : List Gh) (env : Env) (σ : Store) (a : Act) (w : World),
    chkDT Γ.P Γ.E N ops t listed = true → t.dep ≤ fuel → WR Γ N s M ρ env σ a w → CapsOk M ρ cs L → wdt Γ Q t L env σ →
    wpAnyL Γ.P ops (WPost Γ N s Q) (cs.map fun c => (c.i, c.S)) fuel listed a w
  | .done, listed, fuel, cs, L, M, ρ, env, σ, a, w, hc, hd, h, hcaps, hK => by
    simp only [chkDT, List.isEmpty_iff] at hc
    exact wpAnyL_done hc ⟨M, ρ, env, σ, .normal, h, trivial, hK⟩ fuel
  | .q i io next, listed, fuel, cs, L, M, ρ, env, σ, a, w, hc, hd, h, hcaps, hK => by
    simp only [chkDT, Bool.and_eq_true] at hc
    obtain ⟨h1, h2⟩ := hc
    split at h1
    case h_2 => cases h1
    rename_i o ho
    simp only [Bool.and_eq_true] at h1
    obtain ⟨⟨⟨hq, h3⟩, hf⟩, hr⟩ := h1
    obtain ⟨fuel, rfl⟩ : ∃ f, fuel = f + 1 := ⟨fuel - 1, by simp only [DT.dep] at hd; omega⟩
    simp only [wdt] at hK
    obtain ⟨v, env', hy, hw', hk⟩ := q_yields h hq h3 hK
    refine wpAnyL_first (S := Sim M ρ w (footOf env io)) ho (Region.noSelect_spec hsel) (fun c a' w' => wpost_panic c a' _ _ w') fuel listed a w (Region.free_spec ho hf) (by simpa using hr) hy (Sim.refl h.stp.rel _) ?_
    exact wdt_sound hsel next _ fuel (⟨i, M, ρ, w, footOf env io⟩ :: cs) ((i, footOf env io) :: L) M ρ env' σ _ w h2 (by simp only [DT.dep] at hd; omega) hw' ⟨⟨rfl, rfl, Mem.le_refl M, fun _ _ hb => hb⟩, hcaps⟩ hk
  | .br b, listed, fuel, cs, L, M, ρ, env, σ, a, w, hc, hd, h, hcaps, hK => by
    simp only [chkDT, Bool.and_eq_true, beq_iff_eq] at hc
    obtain ⟨⟨h1, h2⟩, h3⟩ := hc
    simp only [DT.dep] at hd
    have hne : b.idx ≠ [] := by
      intro he
      rw [he] at h2
      simp at h2
    have hpos : 0 < b.dep := by
      cases b with
      | nil => simp [DB.idx] at hne
      | cons i ws io t r => simp only [DB.dep]; omega
    obtain ⟨fuel, rfl⟩ : ∃ f, fuel = f + 1 := ⟨fuel - 1, by omega⟩
    refine ⟨fun h0 => absurd (h1.symm.trans h0) hne, ?_⟩
    rw [h1]
    exact wdb_sound hsel b listed fuel cs L M ρ env σ a w h3 hd h hcaps hK
theorem wdb_sound {ops : Array Oper} (hsel : Region.noSelect ops = true) : ∀ (b : DB) (listed : Array Bool) (fuel : Nat) (cs : List Cap) (L : List (Nat × List Nat)) (M : Mem) (ρ : List Gh) (env : Env) (σ : Store) (a : Act) (w : World),
    chkDB Γ.P Γ.E N ops b listed = true → b.dep ≤ fuel + 1 → WR Γ N s M ρ env σ a w → CapsOk M ρ cs L → wdb Γ Q b L env σ →
    ∀ i ∈ b.idx, wpOp Γ.P ops (WPost Γ N s Q) i (fun a' w' => (∀ jS ∈ cs.map (fun c => (c.i, c.S)), waits ops i jS.1 = false → jS.2 w → jS.2 w') ∧
      wpAnyL Γ.P ops (WPost Γ N s Q) (cs.map fun c => (c.i, c.S)) fuel (listed.setIfInBounds i true) a' w') a w
  | .nil, _, _, _, _, _, _, _, _, _, _, _, _, _, _, _, i, hi => by simp [DB.idx] at hi
  | .cons i0 ws io t r, listed, fuel, cs, L, M, ρ, env, σ, a, w, hc, hd, h, hcaps, hK, i, hi => by
    simp only [chkDB, Bool.and_eq_true] at hc
    obtain ⟨⟨⟨h1, h2⟩, h3⟩, h4⟩ := hc
    simp only [DB.dep] at hd
    simp only [wdb] at hK
    obtain ⟨⟨hap, hK1⟩, hK2⟩ := hK
    rcases List.mem_cons.1 hi with rfl | hi
    · split at h1
      case h_2 => cases h1
      rename_i o ho
      refine wpOp_mono ?_ (io_sound h ho h1 hK1)
      rintro a' w' ⟨M', ρ', env', σ', k1, k2, k3, k4⟩
      refine ⟨caps_keep h2 k1.stp.rel.mem k3 (fun j b hb hn => (k4 j b hb).2 hn) hcaps hap, ?_⟩
      exact wdt_sound hsel t _ fuel cs L M' ρ' env' σ' a' w' h3 (by omega) k1 (hcaps.later k3 fun j b hb => (k4 j b hb).1) k2
    · exact wdb_sound hsel r listed fuel cs L M ρ env σ a w h4 (by omega) h hcaps hK2 i hi
end
end
end Go.Plane
end
section
set_option linter.unusedVariables false
namespace Go.Plane
open Go

section
variable {Γ : Cfg} {M M' : Mem} {ρ ρ' : List Gh} {σ σ' : Store} {w w' : World} {N : Nat} {s : Start} {env : Env} {a : Act} {Q : Ex → Env → Store → Prop} {K : Env → Store → Prop}

theorem PV.argOf_ids {p : PV} (σ : Store) : (∃ i n, p = .lref i n) → (p.argOf σ).ids = [] := by
  rintro ⟨i, n, rfl⟩
  simp only [PV.argOf]
  split <;> rfl

theorem Rep.exp {v : Value} {p : PV} (h : Rep M ρ σ v p) (n : Nat) : Rep M ρ σ v (p.exp n σ) ∧ ∀ i ∈ (p.exp n σ).ids, i < n := by
  unfold PV.exp
  split
  · rename_i hall
    exact ⟨h, fun i hi => by rw [List.all_eq_true] at hall; simpa using hall i hi⟩
  · split
    · refine ⟨h.argOf, fun i hi => ?_⟩
      rw [PV.argOf_ids σ ⟨_, _, rfl⟩] at hi
      cases hi
    · exact ⟨.undef _, fun i hi => by cases hi⟩

theorem Tr.take (ρ : List Gh) (σ : Store) (n : Nat) {i : Nat} (hi : i < n) : Tr ρ σ (ρ.take n) (shrink n σ) i i := by
  refine ⟨fun b hb => by rw [List.getElem?_take_of_lt hi]; exact hb, fun sz xs cv hs hg => ⟨[], cv, ?_, by rw [List.getElem?_take_of_lt hi]; exact hg, fun _ => rfl⟩⟩
  simp only [shrink, List.getElem?_map, List.getElem?_take_of_lt hi, hs, Option.map_some, Ent.exp, List.append_nil]

theorem Rel.shrink (h : Rel Γ M ρ σ w) (n : Nat) : Rel Γ M (ρ.take n) (shrink n σ) w := by
  have at_ : ∀ i x, (Go.Plane.shrink n σ)[i]? = some x → i < n ∧ ∃ y, σ[i]? = some y ∧ x = y.exp n σ := fun i x hx => by
    simp only [Go.Plane.shrink, List.getElem?_map] at hx
    obtain ⟨y, hy, rfl⟩ := Option.map_eq_some_iff.1 hx
    rw [List.getElem?_take] at hy
    split at hy
    · exact ⟨‹_›, y, hy, rfl⟩
    · cases hy
  refine ⟨h.gl, h.mem, by simp [Go.Plane.shrink, h.len], ?_, ?_, ?_⟩
  · intro i ty cs hi
    obtain ⟨hlt, y, hy, he⟩ := at_ i _ hi
    cases y with
    | lst sz xs => cases he
    | box ty' ds =>
      simp only [Ent.exp, Ent.box.injEq] at he
      obtain ⟨rfl, rfl⟩ := he
      obtain ⟨b, vs, e, h1, h2, h3, h4, h5⟩ := h.box i _ ds hy
      refine ⟨b, vs, e, by rw [List.getElem?_take_of_lt hlt]; exact h1, h2, by simp [h3], fun j v p hv hp => ?_, h5⟩
      rw [List.getElem?_map] at hp
      obtain ⟨q, hq, rfl⟩ := Option.map_eq_some_iff.1 hp
      obtain ⟨k1, k2⟩ := (h4 j v q hv hq).exp n
      exact k1.tr_id (Mem.le_refl M) fun i' hi' => Tr.take ρ σ n (k2 i' hi')
  · intro i sz xs hi
    obtain ⟨hlt, y, hy, he⟩ := at_ i _ hi
    cases y with
    | box ds => cases he
    | lst sz' xs' =>
      simp only [Ent.exp, Ent.lst.injEq] at he
      obtain ⟨rfl, rfl⟩ := he
      obtain ⟨v, h1, h2⟩ := h.lst i _ _ hy
      exact ⟨v, by rw [List.getElem?_take_of_lt hlt]; exact h1, h2⟩
  · intro i j g1 g2 b hij h1 h2 hb1 hb2
    have f : ∀ (k : Nat) (g : Gh), (ρ.take n)[k]? = some g → ρ[k]? = some g := fun k g hk => by
      rw [List.getElem?_take] at hk
      split at hk
      · exact hk
      · cases hk
    exact h.inj i j g1 g2 b hij (f _ _ h1) (f _ _ h2) hb1 hb2

theorem blks_take {b n : Nat} (h : b ∈ blks (ρ.take n)) : b ∈ blks ρ := by
  obtain ⟨i, g, hi, hg⟩ := mem_blks.1 h
  rw [List.getElem?_take] at hi
  split at hi
  · exact mem_blks.2 ⟨i, g, hi, hg⟩
  · cases hi

theorem stp_shrink {F : Nat → Prop} {M0 : Mem} {ρ0 : List Gh} {σ0 : Store} {w0 : World} (h : StpF Γ F M0 ρ0 σ0 w0 M ρ σ w) (hl : ρ0.length = σ0.length) {n : Nat} (hn : σ0.length ≤ n) :
    StpF Γ F M0 ρ0 σ0 w0 M (ρ.take n) (shrink n σ) w :=
  ⟨h.os, h.tape, h.output, h.size, h.keep, h.mono, h.fresh, h.shp, h.rel.shrink n, fun b hb => h.blk b (blks_take hb), fun i => by
    by_cases hi : i < n
    · exact (h.tr i).trans (Tr.take ρ σ n hi)
    · exact ⟨fun b hb => (by have := (List.getElem?_eq_some_iff.1 hb).1; omega), fun sz xs cv hs _ => (by have := (List.getElem?_eq_some_iff.1 hs).1; omega)⟩⟩

theorem Apart.take {B : Mem} {Fp Kp : Nat → Prop} (h : Apart B M ρ Fp Kp) (n : Nat) : Apart B M (ρ.take n) Fp Kp :=
  ⟨fun b hb => h.f b (blks_take hb), fun b hb => h.k b (blks_take hb), h.m⟩
theorem Aside.take {F : Nat → Prop} {Bm B : Nat} {env env' : Env} {ds : List Deferred} (h : Aside Γ F Bm B M ρ env ds w) (n : Nat) (hg : env'.get cntT = env.get cntT ∨ (env'.get cntT).plain = true) : Aside Γ F Bm B M (ρ.take n) env' ds w := by
  have h := h.env hg
  refine ⟨fun k hk => ?_, fun hk => ?_, ?_, h.bm⟩
  · obtain ⟨Fp, Kp, h1, h2, h3⟩ := h.gh k hk
    exact ⟨Fp, Kp, h1, h2.take n, h3⟩
  · obtain ⟨Fp, Kp, h1, h2, h3⟩ := h.gx hk
    exact ⟨Fp, Kp, h1, h2.take n, h3⟩
  · obtain ⟨Ds, h1, h2, h3⟩ := h.marks
    exact ⟨Ds, h1, h2, fun D hD => ⟨(h3 D hD).1, fun hm => (h3 D hD).2.1 (blks_take hm), (h3 D hD).2.2⟩⟩

theorem exp_plain (n : Nat) (σ : Store) (p : PV) : p.exp n σ = p ∨ (p.exp n σ).plain = true := by
  unfold PV.exp
  split
  · exact .inl rfl
  · split
    · right
      simp only [PV.argOf]
      split <;> rfl
    · exact .inr rfl
theorem get_keep (env : Env) : ∀ (l : List Nat) (t : Nat), (env.keep l).get t = env.get t ∨ (env.keep l).get t = .undef
  | [], t => .inr rfl
  | k :: l, t => by
    simp only [Env.keep, List.map_cons, Env.get]
    split
    · rename_i he; subst he; exact .inl rfl
    · exact get_keep env l t
theorem WR.keep (h : WR Γ N s M ρ env σ a w) (l : List Nat) : WR Γ N s M ρ (env.keep l) σ a w :=
  ⟨h.stp, h.slen, h.len, h.size, h.aside.env ((get_keep env l cntT).imp_right fun he => by rw [he]; rfl), fun t => by
    rcases get_keep env l t with he | he <;> rw [he]
    · exact h.env t
    · exact .undef _, h.gw, h.nN⟩

theorem get_shr (env : Env) (n : Nat) (σ : Store) : ∀ (l : List Nat) (t : Nat), (env.shr n σ l).get t = (env.get t).exp n σ ∨ (env.shr n σ l).get t = .undef
  | [], t => .inr rfl
  | k :: l, t => by
    simp only [Env.shr, List.map_cons, Env.get]
    split
    · rename_i he; subst he; exact .inl rfl
    · exact get_shr env n σ l t
theorem WR.shr (h : WR Γ N s M ρ env σ a w) (l : List Nat) {n : Nat} (hn : s.σ.length ≤ n) : WR Γ N s M (ρ.take n) (env.shr n σ l) (shrink n σ) a w := by
  refine ⟨stp_shrink h.stp h.slen hn, h.slen, by simp only [shrink, List.length_map, List.length_take]; exact Nat.le_min.2 ⟨hn, h.len⟩, h.size, h.aside.take n ?_, fun t => ?_, h.gw, h.nN⟩
  · rcases get_shr env n σ l cntT with he | he
    · rw [he]; exact exp_plain _ _ _
    · exact .inr (by rw [he]; rfl)
  rcases get_shr env n σ l t with he | he <;> rw [he]
  · obtain ⟨k1, k2⟩ := (h.env t).exp n
    exact k1.tr_id (Mem.le_refl M) fun i hi => Tr.take ρ σ n (k2 i hi)
  · exact .undef _

/-- Once round. -/
theorem LP_unroll {l : List Nat} {c : IC} (h : ∀ N R C, chkC Γ.P Γ.E N (Option.isSome R) c C = true → W Γ N R C (Ex.then (fun env' σ' => LP Γ l c Q (env'.shr σ.length σ' l) (shrink σ.length σ')) Q) env σ) : LP Γ l c Q env σ := by
  intro N R C hc s M ρ a w hw
  refine lwp_unroll <| wpIn_mono (h N R C hc 0 s M ρ a w hw) fun e a' w' h' => ?_
  obtain ⟨M', ρ', env', σ', ex, h1, h2, h3⟩ := h'
  cases e with
  | normal =>
    cases ex <;> simp only [RepEx] at h2
    exact h3 N R C hc s M' _ a' w' (h1.shr l hw.len)
  | outgrown => cases ex <;> exact h2.elim
  | goto l => cases ex <;> exact h2.elim
  | exit i => cases ex <;> first | exact h2.elim | exact ⟨M', ρ', env', σ', _, h1, h2, h3⟩
  | ret => cases ex <;> first | exact h2.elim | exact ⟨M', ρ', env', σ', _, h1, h2, h3⟩
  | panic c => cases ex <;> first | exact h2.elim | exact ⟨M', ρ', env', σ', _, h1, h2, h3⟩

theorem W_label {l : Nat} {R : Option Nat} (h : Q .normal env σ) : W Γ N R (.label l) Q env σ :=
  fun _ _ M ρ _ _ hw => wpIn_label ⟨M, ρ, env, σ, .normal, hw, trivial, h⟩

theorem W_loop_of {R : Option Nat} {c : Code} (h : WL Γ N R c Q env σ) : W Γ N R (.loop c) Q env σ := fun n s M ρ a w hw => wp_loop_of (h s M ρ a w hw) n

/-! ### A loop over what is yielded -/
theorem shape_loop {w : World} {l : Nat} {r : Loop} (h : w.heap[l]? = some (.loop r)) : w.shape? l = none := by unfold World.shape?; rw [h]
theorem shape_dfr {w : World} {l : Nat} {r : Option (List Deferred)} (h : w.heap[l]? = some (.deferred r)) : w.shape? l = none := by unfold World.shape?; rw [h]
theorem StpF.put {F : Nat → Prop} {M0 : Mem} {ρ0 : List Gh} {σ0 : Store} {w0 : World} {l : Nat} (h : StpF Γ F M0 ρ0 σ0 w0 M ρ σ w) (hl : w.shape? l = none) (o : Obj) (hb : l ∉ blks ρ) (hm : ∀ o v, M l o ≠ some v)
    (hF : F l ∨ w0.heap.size ≤ l) : StpF Γ F M0 ρ0 σ0 w0 M ρ σ (w.putObj l o) where
  os := h.os
  tape := h.tape
  output := h.output
  size := by rw [World.putObj_size]; exact h.size
  keep := fun b h1 h2 h3 => by
    rw [World.putObj_heap_other (fun he => ?_)]
    · exact h.keep b h1 h2 h3
    · subst he
      rcases hF with h4 | h4
      · exact h3 h4
      · omega
  mono := h.mono
  fresh := h.fresh
  shp := fun b s hs => by
    have := h.shp b s hs
    unfold World.shape? at this ⊢
    by_cases hbl : b = l
    · subst hbl; unfold World.shape? at hl; rw [hl] at this; cases this
    · rw [World.putObj_heap_other hbl]; exact this
  rel := h.rel.keep (fun b hb' => World.putObj_heap_other fun he => hb (he ▸ hb')) fun b o' v hv => by
    rw [cell_heap (w := w) (World.putObj_heap_other fun he => ?_)]
    · exact h.rel.mem b o' v hv
    · exact hm o' v (he ▸ hv)
  blk := h.blk
  tr := h.tr

def lpOf (fn : FuncId) (tmps : Array Value) (p : Nat) (X Y : Code) (D : Nat) (st : LoopState) (pe : Option Code) : Loop := { state := st, pending := pe, fn, tmps, params := #[p], assign := X, body := Y, defers := D }
/-- Between two rounds. -/
structure RfSt (Γ : Cfg) (M : Mem) (ρ : List Gh) (σ : Store) (w : World) (lp : Loop) (M' : Mem) (ρ' : List Gh) (σ' : Store) (W : World) : Prop where
  stp : StpF Γ (fun _ => False) M ρ σ w M' ρ' σ' W
  len : σ.length ≤ σ'.length
  rcd : W.heap[w.heap.size + 1]? = some (.loop lp)
  dfr : W.heap[w.heap.size]? = some (.deferred (some []))
  nb : ∀ b ∈ blks ρ', b ≠ w.heap.size ∧ b ≠ w.heap.size + 1
  nm : ∀ b o v, M' b o = some v → b ≠ w.heap.size ∧ b ≠ w.heap.size + 1
def FpOf (w : World) (ρ : List Gh) : Nat → Prop := fun b => b ∈ blks ρ ∨ b = w.heap.size + 1
def KpOf (w : World) (M : Mem) : Nat → Prop := fun b => b < w.heap.size + 2 ∨ ∃ o v, M b o = some v

section
variable {lp : Loop} {W W' : World} {M1 : Mem} {ρ1 : List Gh} {σ1 : Store}
theorem RfSt.size (h : RfSt Γ M ρ σ w lp M' ρ' σ' W) : w.heap.size + 2 ≤ W.heap.size := (Array.getElem?_eq_some_iff.1 h.rcd).1
theorem RfSt.blt (h : RfSt Γ M ρ σ w lp M' ρ' σ' W) {b : Nat} (hb : b ∈ blks ρ') : b < W.heap.size := by
  obtain ⟨i, g, hi, hg⟩ := mem_blks.1 hb
  exact h.stp.rel.blk_lt hi hg
theorem RfSt.lt (h : RfSt Γ M ρ σ w lp M' ρ' σ' W) (b : Nat) (hb : FpOf w ρ' b ∨ KpOf w M' b) : b < W.heap.size := by
  have := h.size
  rcases hb with (hb | rfl) | (hb | ⟨o, v, hb⟩)
  · exact h.blt hb
  · omega
  · omega
  · exact h.stp.rel.mem_lt hb
theorem RfSt.keep (h : RfSt Γ M ρ σ w lp M' ρ' σ' W) (hk : Keeps (fun b => FpOf w ρ' b ∨ KpOf w M' b) W W') : RfSt Γ M ρ σ w lp M' ρ' σ' W' where
  stp := ⟨hk.os.trans h.stp.os, hk.tape.trans h.stp.tape, hk.output.trans h.stp.output, Nat.le_trans h.stp.size hk.size, fun b h1 h2 h3 => (hk.keep b (.inr (.inl (by omega)))).trans (h.stp.keep b h1 h2 h3),
    h.stp.mono, h.stp.fresh, fun b s hs => hk.shp b s (h.stp.shp b s hs), h.stp.rel.keep (fun b hb => hk.keep b (.inl (.inl hb))) (fun b o v hm => by
      rw [cell_heap (w := W) (hk.keep b (.inr (.inr ⟨o, v, hm⟩)))]; exact h.stp.rel.mem b o v hm), h.stp.blk, h.stp.tr⟩
  len := h.len
  rcd := (hk.keep _ (.inl (.inr rfl))).trans h.rcd
  dfr := (hk.keep _ (.inr (.inl (by omega)))).trans h.dfr
  nb := h.nb
  nm := h.nm
theorem RfSt.put (h : RfSt Γ M ρ σ w lp M' ρ' σ' W) (lp' : Loop) : RfSt Γ M ρ σ w lp' M' ρ' σ' (W.putObj (w.heap.size + 1) (.loop lp')) where
  stp := h.stp.put (shape_loop h.rcd) _ (fun hm => (h.nb _ hm).2 rfl) (fun o v hm => (h.nm _ _ _ hm).2 rfl) (.inr (by omega))
  len := h.len
  rcd := World.putObj_heap_same (by have := h.size; omega)
  dfr := (World.putObj_heap_other (by omega)).trans h.dfr
  nb := h.nb
  nm := h.nm
theorem RfSt.step (h : RfSt Γ M ρ σ w lp M' ρ' σ' W) (hs : Stp Γ M' ρ' σ' W M1 ρ1 σ1 W') (hl : σ'.length ≤ σ1.length) : RfSt Γ M ρ σ w lp M1 ρ1 σ1 W' where
  stp := h.stp.trans hs
  len := Nat.le_trans h.len hl
  rcd := (hs.ext.keep _ (by have := h.size; omega) fun hm => (h.nb _ hm).2 rfl).trans h.rcd
  dfr := (hs.ext.keep _ (by have := h.size; omega) fun hm => (h.nb _ hm).1 rfl).trans h.dfr
  nb := fun b hb => by
    rcases hs.blk b hb with h1 | h1
    · exact h.nb b h1
    · have := h.size; omega
  nm := fun b o v hm => by
    cases h0 : M' b o with
    | some u => exact h.nm b o u h0
    | none =>
      rcases hs.ext.fresh b o v h0 hm with h1 | h1
      · have := h.size; omega
      · exact h.nb b h1
theorem RfSt.shr (h : RfSt Γ M ρ σ w lp M' ρ' σ' W) (hl : ρ.length = σ.length) : RfSt Γ M ρ σ w lp M' (ρ'.take σ.length) (shrink σ.length σ') W where
  stp := stp_shrink h.stp hl (Nat.le_refl _)
  len := by simp only [shrink, List.length_map, List.length_take]; exact Nat.le_min.2 ⟨Nat.le_refl _, h.len⟩
  rcd := h.rcd
  dfr := h.dfr
  nb := fun b hb => h.nb b (blks_take hb)
  nm := h.nm
end

theorem noC_plain (e : Env) : ((noC e).get cntT).plain = true := by simp [noC, Env.put, Env.get, PV.plain]
theorem repD_valD (M : Mem) : ∀ {d : D}, (∀ l, d ≠ .slice l) → (∀ s, d = .str s → (s.length : Int) ≤ 9223372036854775807) → RepD M (valD d) d
  | .int k n, _, _ => .int k n
  | .bool b, _, _ => .bool b
  | .str s, _, h => .str _ _ rfl (h s rfl)
  | .slice l, h, _ => absurd rfl (h l)
theorem rep_agg_valD (M : Mem) (ρ : List Gh) (σ : Store) {cs : List D} (h : ∀ d ∈ cs, ∀ l, d ≠ .slice l) (h' : ∀ d ∈ cs, ∀ s, d = .str s → (s.length : Int) ≤ 9223372036854775807) : Rep M ρ σ (.agg (cs.map valD).toArray) (.agg cs) :=
  .agg _ _ ⟨by simp, fun j v d hv hd => by
    rw [List.getElem?_map, hd] at hv
    cases hv
    have := List.mem_of_getElem? hd
    exact repD_valD M (h d this) (h' d this)⟩

/-- What the loop promises. -/
noncomputable def rfSpec (hw : WR Γ N s M ρ env σ a w) {X Y : Code} {A B : (Ex → Env → Store → Prop) → Env → Store → Prop} (hA : ∀ Q e t l, A Q e t → W Γ N (some l) X Q e t) (hB : ∀ Q e t l, B Q e t → W Γ N (some l) Y Q e t)
    {p : Nat} (hp : p < N) (hpl : (env.get cntT).plain = true) (xs : List (List D)) (hflat : ∀ x ∈ xs, ∀ d ∈ x, ∀ l, d ≠ .slice l) (fn : FuncId) : YSpec Γ.P where
  l := w.heap.size + 1
  xs := xs
  flat := hflat
  B := M
  J := fun k Fp Kp W => ∃ M' ρ' σ', RfSt Γ M ρ σ w (lpOf fn a.tmps p X Y w.heap.size .ready none) M' ρ' σ' W ∧ Fp = FpOf w ρ' ∧ Kp = KpOf w M' ∧ rfK (fun K e t => A (Ex.then (fun e t => B K (noC e) t) (fun _ _ _ => False)) e t) Q env σ.length p (xs.drop k) σ'
  Jx := fun Fp Kp W => ∃ M' ρ' σ' c ex, RfSt Γ M ρ σ w (lpOf fn a.tmps p X Y w.heap.size .done (some c)) M' ρ' σ' W ∧ Fp = FpOf w ρ' ∧ Kp = KpOf w M' ∧ Q ex env σ' ∧ ((c = .ret ∧ ex = .ret) ∨ ∃ i, c = .exit i ∧ ex = .exit i)
  st := fun k Fp Kp W W' ⟨M', ρ', σ', h1, h2, h3, h4⟩ hk => ⟨M', ρ', σ', h1.keep (by subst h2 h3; exact hk), h2, h3, h4⟩
  stx := fun Fp Kp W W' ⟨M', ρ', σ', c, ex, h1, h2, h3, h4⟩ hk => ⟨M', ρ', σ', c, ex, h1.keep (by subst h2 h3; exact hk), h2, h3, h4⟩
  lt := fun k Fp Kp W ⟨M', ρ', σ', h1, h2, h3, h4⟩ b hb => h1.lt b (by subst h2 h3; exact hb)
  ltx := fun Fp Kp W ⟨M', ρ', σ', c, ex, h1, h2, h3, h4⟩ b hb => h1.lt b (by subst h2 h3; exact hb)
  rd := by
    rintro k Fp Kp W x ⟨M', ρ', σ', h1, rfl, rfl, h4⟩ hx hbd n
    have hxd : xs.drop k = x :: xs.drop (k + 1) := by
      rw [List.drop_eq_getElem?_toList_append, hx]; rfl
    rw [hxd] at h4
    simp only [rfK] at h4
    have hxm := List.mem_of_getElem? hx
    have hy := run_yield (P := Γ.P) (args := #[.agg (x.map valD).toArray]) h1.rcd rfl
    refine ⟨_, _, _, _, hy, roundIn_of_wpIn trivial ?_⟩
    have hrel := h1.stp.rel
    have hold : ∀ t, Rep M' ρ' σ' (a.tmps.getD t Go.undef) (env.get t) := fun t => (hw.env t).tr_id h1.stp.mono fun i _ => h1.stp.tr i
    have hWR : WR Γ N ⟨M', ρ', σ', W, fun _ => False, 0⟩ M' ρ' ((p, .agg x) :: env) σ' { tmps := a.tmps.setIfInBounds p (.agg (x.map valD).toArray), defers := [] } W :=
      ⟨(Stp.refl hrel).F _, hrel.len, Nat.le_refl _, by simp [hw.size], Aside.none (by
        simp only [Env.get]
        rw [if_neg (by have := hw.nN; omega)]
        exact hpl) (Nat.zero_le _), fun t => by
        rw [getD_put (by rw [hw.size]; exact hp)]
        simp only [Env.get]
        split
        · exact rep_agg_valD _ _ _ (hflat x hxm) hbd
        · exact hold t, Γ.gw _ _ (fun b s' hs => h1.stp.shp b s' (hw.stp.shp b s' hs)) hw.gw, hw.nN⟩
    have hfin : ∀ (M2 : Mem) (ρ2 : List Gh) (σ2 : Store) (w2 : World) (st : LoopState) (pe : Option Code), StpF Γ (fun b => b = w.heap.size + 1) M' ρ' σ' W M2 ρ2 σ2 w2 → RfSt Γ M ρ σ w (lpOf fn a.tmps p X Y w.heap.size .busy none) M2 ρ2 σ2 w2 →
        (∃ v w', (Instr.endRound (w.heap.size + 1) pe).run Γ.P w2 = .ok v w' ∧ v = .bool pe.isNone ∧ RfSt Γ M ρ σ w (lpOf fn a.tmps p X Y w.heap.size (if pe.isNone then .ready else .done) pe) M2 (ρ2.take σ.length) (shrink σ.length σ2) w' ∧
          Keeps (fun c => c < W.heap.size ∧ ¬FpOf w ρ' c) W w' ∧ (∀ c o v, M c o = some v → w'.cell? ⟨c, o, none⟩ = some v) ∧ (∀ c, FpOf w (ρ2.take σ.length) c → FpOf w ρ' c ∨ W.heap.size ≤ c) ∧
          (∀ c, KpOf w M2 c → KpOf w M' c ∨ FpOf w ρ' c ∨ W.heap.size ≤ c)) := by
      intro M2 ρ2 σ2 w2 st pe hs hr
      have hput := hs.put (shape_loop hr.rcd) (.loop (lpOf fn a.tmps p X Y w.heap.size (if pe.isNone then .ready else .done) pe)) (fun hm => (hr.nb _ hm).2 rfl) (fun o v hm => (hr.nm _ _ _ hm).2 rfl) (.inl rfl)
      have he : (Instr.endRound (w.heap.size + 1) pe).run Γ.P w2 = .ok (.bool pe.isNone) (w2.putObj (w.heap.size + 1) (.loop (lpOf fn a.tmps p X Y w.heap.size (if pe.isNone then .ready else .done) pe))) := by
        exact run_endRound (P := Γ.P) pe hr.rcd
      refine ⟨_, _, he, rfl, (hr.put _).shr hw.stp.rel.len, ⟨hput.os, hput.tape, hput.output, hput.size, fun b hb => hput.keep b hb.1 (fun hm => hb.2 (.inl hm)) (fun hm => hb.2 (.inr hm)), hput.shp⟩, fun c o v hm => ?_, fun c hc => ?_, fun c hc => ?_⟩
      · exact hput.rel.mem c o v ((Mem.le_trans h1.stp.mono hput.mono) c o v hm)
      · rcases hc with hc | hc
        · exact (hput.blk c (blks_take hc)).imp_left .inl
        · exact .inl (.inr hc)
      · rcases hc with hc | ⟨o, v, hc⟩
        · exact .inl (.inl hc)
        · cases h0 : M' c o with
          | some u => exact .inl (.inr ⟨o, u, h0⟩)
          | none =>
            rcases hput.fresh c o v h0 hc with h5 | h5
            · exact .inr (.inr h5)
            · exact .inr (.inl (.inl h5))
    have htm : ∀ v, ((lpOf fn a.tmps p X Y w.heap.size .ready none).params.zip #[v]).foldl (fun tmps (x : Tmp × Value) => match x with | (t, a) => tmps.setIfInBounds t a) (lpOf fn a.tmps p X Y w.heap.size .ready none).tmps = a.tmps.setIfInBounds p v := fun v => by
      simp [lpOf]
    rw [htm]
    show X.wpIn (Fw (some (w.heap.size + 1))) n Γ.P _ { tmps := a.tmps.setIfInBounds p (.agg (x.map valD).toArray), defers := [] } W
    refine wpIn_mono (hA _ _ _ (w.heap.size + 1) h4 n _ M' ρ' _ W hWR) ?_
    rintro e a1 w1 ⟨M1, ρ1, env1, σ1, ex, k1, k2, k3⟩
    cases e with
    | outgrown => cases ex <;> exact k2.elim
    | goto l => cases ex <;> exact k2.elim
    | exit i => cases ex <;> first | exact k2.elim | exact k3.elim
    | ret => cases ex <;> first | exact k2.elim | exact k3.elim
    | panic c => cases ex <;> first | exact k2.elim | exact k3.elim
    | normal =>
    cases ex <;> simp only [RepEx] at k2
    have hs1 : Stp Γ M' ρ' σ' W M1 ρ1 σ1 w1 := k1.stp.stp fun _ _ h => h
    have hr1 := h1.step hs1 k1.len
    have hbusy := hr1.put (lpOf fn a.tmps p X Y w.heap.size .busy none)
    refine ⟨_, run_beginRound (P := Γ.P) hr1.rcd rfl, ?_⟩
    have hsF : StpF Γ (fun b => b = w.heap.size + 1) M' ρ' σ' W M1 ρ1 σ1 (w1.putObj (w.heap.size + 1) (.loop (lpOf fn a.tmps p X Y w.heap.size .busy none))) :=
      (hs1.F _).put (shape_loop hr1.rcd) _ (fun hm => (hr1.nb _ hm).2 rfl) (fun o v hm => (hr1.nm _ _ _ hm).2 rfl) (.inl rfl)
    have hrel1 := hbusy.stp.rel
    have hWR2 : WR Γ N ⟨M1, ρ1, σ1, w1.putObj (w.heap.size + 1) (.loop (lpOf fn a.tmps p X Y w.heap.size .busy none)), fun _ => False, 0⟩ M1 ρ1 (noC env1) σ1 a1 (w1.putObj (w.heap.size + 1) (.loop (lpOf fn a.tmps p X Y w.heap.size .busy none))) := by
      refine ⟨(Stp.refl hrel1).F _, hrel1.len, Nat.le_refl _, k1.size, ⟨fun k hk => ?_, fun hk => ?_, ?_, Nat.zero_le _⟩, fun t => ?_, Γ.gw _ _ (fun b s' hs => hbusy.stp.shp b s' (hw.stp.shp b s' hs)) hw.gw, k1.nN⟩
      · have := noC_plain env1; rw [hk] at this; cases this
      · have := noC_plain env1; rw [hk] at this; cases this
      · obtain ⟨Ds, e1, e2, e3⟩ := k1.aside.marks
        refine ⟨Ds, e1, e2, fun D hD => ?_⟩
        obtain ⟨g1, g2, g3, g4⟩ := e3 D hD
        refine ⟨(World.putObj_heap_other fun he => ?_).trans g1, g2, g3, Nat.zero_le _⟩
        rw [he, hr1.rcd] at g1
        cases g1
      · simp only [noC, Env.put, Env.get]
        split
        · exact .undef _
        · exact k1.env t
    refine wpIn_mono (hB _ _ _ (w.heap.size + 1) k3 n _ M1 ρ1 _ _ hWR2) ?_
    rintro e a2 w2 ⟨M2, ρ2, env2, σ2, ex, j1, j2, j3⟩
    have hs2 := j1.stp.stp fun _ _ h => h
    have hr2 := hbusy.step hs2 j1.len
    have hF2 := hsF.trans hs2
    cases e with
    | outgrown => cases ex <;> exact j2.elim
    | goto l => cases ex <;> exact j2.elim
    | panic c => cases ex <;> first | exact j2.elim | exact j3.elim
    | normal =>
      cases ex <;> simp only [RepEx] at j2
      obtain ⟨v, w', g1, rfl, g3, g4, g5, g6, g7⟩ := hfin M2 ρ2 σ2 w2 .ready none hF2 hr2
      exact ⟨_, w', g1, true, FpOf w (ρ2.take σ.length), KpOf w M2, rfl, g4, fun c o v hm _ => g5 c o v hm, g6, g7, fun _ => ⟨M2, _, _, g3, rfl, rfl, j3⟩, fun h => by cases h⟩
    | exit i =>
      cases ex <;> simp only [RepEx] at j2
      subst j2
      obtain ⟨v, w', g1, rfl, g3, g4, g5, g6, g7⟩ := hfin M2 ρ2 σ2 w2 .done (some (.exit i)) hF2 hr2
      exact ⟨_, w', g1, false, FpOf w (ρ2.take σ.length), KpOf w M2, rfl, g4, fun c o v hm _ => g5 c o v hm, g6, g7, (fun h => by cases h), fun _ => ⟨M2, _, _, _, .exit i, g3, rfl, rfl, j3, .inr ⟨i, rfl, rfl⟩⟩⟩
    | ret =>
      cases ex <;> simp only [RepEx] at j2
      obtain ⟨v, w', g1, rfl, g3, g4, g5, g6, g7⟩ := hfin M2 ρ2 σ2 w2 .done (some .ret) hF2 hr2
      exact ⟨_, w', g1, false, FpOf w (ρ2.take σ.length), KpOf w M2, rfl, g4, fun c o v hm _ => g5 c o v hm, g6, g7, (fun h => by cases h), fun _ => ⟨M2, _, _, _, .ret, g3, rfl, rfl, j3, .inl ⟨rfl, rfl⟩⟩⟩

theorem rf_sound {g' : Operand} {g : Opd} {p : Nat} {x y : IC} {X Y : Code} (h : wic Γ (.rf g p x y) Q env σ) (hg : chkOpd g' g = true) (hp : p < N) (hA : ∀ Q e t l, wic Γ x Q e t → W Γ N (some l) X Q e t)
    (hB : ∀ Q e t l, wic Γ y Q e t → W Γ N (some l) Y Q e t) : W Γ N none (.rangeFunc g' #[p] X Y) Q env σ := by
  intro n s M ρ a w hw
  simp only [wic] at h
  obtain ⟨hpl, h⟩ := h
  split at h
  case h_2 => exact h.elim
  rename_i gf caps hgv
  obtain ⟨hids, xs, ⟨hok, hflat, hit⟩, hrf⟩ := h
  have hrg := hw.env0.rep _ _ hg
  rw [hgv] at hrg
  obtain ⟨us, vs, hev, hul, hvl, _, hvr⟩ := hrg.fn_inv
  obtain rfl : us = [] := List.eq_nil_of_length_eq_zero hul
  refine wpIn_rangeFunc fun fn _ => ?_
  have hrel := hw.stp.rel
  let Yx := rfSpec (Q := Q) hw hA hB hp hpl xs hflat fn
  let lp := lpOf fn a.tmps p X Y w.heap.size
  let W1 := (w.alloc (.deferred (some []))).alloc (.loop (lp .ready none))
  have hst1 : Stp Γ M ρ σ w M ρ σ W1 := Stp.trans (w1 := w.alloc (.deferred (some []))) ⟨Ext.alloc _ _ _ _, hrel.alloc _, fun _ h => .inl h, fun i => Tr.refl ρ σ i⟩ ⟨Ext.alloc _ _ _ _, (hrel.alloc _).alloc _, fun _ h => .inl h, fun i => Tr.refl ρ σ i⟩
  have hL1 : W1.heap[w.heap.size + 1]? = some (.loop (lp .ready none)) := by
    have := heap_push (w.alloc (.deferred (some []))) (.loop (lp .ready none)); rwa [size_alloc'] at this
  have hD1 : W1.heap[w.heap.size]? = some (.deferred (some [])) := (heap_push_old _ _ (by rw [size_alloc']; omega)).trans (heap_push w _)
  have hblk : ∀ b ∈ blks ρ, b < w.heap.size := fun b hb => by
    obtain ⟨i, g, hi, hg⟩ := mem_blks.1 hb
    exact hrel.blk_lt hi hg
  have hst0 : RfSt Γ M ρ σ w (lp .ready none) M ρ σ W1 := ⟨hst1.F _, Nat.le_refl _, hL1, hD1, fun b hb => (by have := hblk b hb; omega), fun b o v hm => (by have := hrel.mem_lt hm; omega)⟩
  refine ⟨w.heap.size + 1, [{ target := .collected w.heap.size, args := #[] }], W1, { target := .fn (.func gf) vs.toArray, args := #[.func (.yield (w.heap.size + 1)) #[] #[]] }, W1, gf,
    #[.func (.yield (w.heap.size + 1)) #[] #[]] ++ vs.toArray, W1, run_enterLoop_outer _ _ _ _ _, ?_, fun _ _ => trivial, ?_, fun h => by simp [Fw, Fence.wide] at h, ?_⟩
  · simp only [resolve, hev]
    simp [go_sem]
  · simp [invoke, go_sem, run_callFunc hok]
  · refine callsIn_Fw none _ ?_
    have hrel0 : Rel Γ M [] [] W1 := ⟨hst1.rel.gl, hst1.rel.mem, rfl, by simp, by simp, by simp⟩
    have hcall := hit Yx rfl W1 vs (FpOf w ρ) (KpOf w M) hrel0 (Γ.gw _ _ (fun b s' hs => hst1.ext.shp b s' (hw.stp.shp b s' hs)) hw.gw) hvl (fun j v q hv hq => by
      refine (hvr j v q hv hq).tr_id (Mem.le_refl M) fun i hi => ?_
      have : i ∈ PV.ids.idsL caps := PV.mem_idsL.2 ⟨q, List.mem_of_getElem? hq, hi⟩
      rw [hids] at this
      cases this) ⟨M, ρ, σ, hst0, rfl, rfl, hrf⟩
    have harr : (Value.func (.yield Yx.l) #[] #[] :: vs).toArray = #[Value.func (.yield (w.heap.size + 1)) #[] #[]] ++ vs.toArray := by
      apply Array.ext'; simp [Yx, rfSpec]
    rw [harr] at hcall
    refine hcall.mono ?_
    have fin : ∀ (M' : Mem) (ρ' : List Gh) (σ' : Store) (W2 : World) (lp' : Loop), RfSt Γ M ρ σ w lp' M' ρ' σ' W2 → WR Γ N s M' ρ' env σ' { a with defers := [({ target := .collected w.heap.size, args := #[] } : Deferred)] ++ a.defers } W2 := by
      intro M' ρ' σ' W2 lp' hr
      have hs := hr.stp.stp fun _ _ h => h
      obtain ⟨Ds, e1, e2, e3⟩ := hw.aside.marks
      have hsd := hw.aside.step (env' := env) hs.ext hs.blk (.inl rfl)
      refine ⟨hw.stp.trans hs, hw.slen, Nat.le_trans hw.len hr.len, hw.size, ⟨fun k hk => ?_, fun hk => ?_, ?_, hsd.bm⟩, fun t => rep_old (hw.env t) hs, hw.gw, hw.nN⟩
      · rw [hk] at hpl; cases hpl
      · rw [hk] at hpl; cases hpl
      · obtain ⟨Es, f1, f2, f3⟩ := hsd.marks
        have hEs : ∀ D ∈ Es, D ∈ Ds := by
          have : Es.map (fun D => ({ target := .collected D, args := #[] } : Deferred)) = Ds.map (fun D => ({ target := .collected D, args := #[] } : Deferred)) := by rw [← f1, ← e1]
          have : Es = Ds := by
            refine (List.map_inj_right (fun x y hxy => ?_)).1 this
            simpa using hxy
          exact fun D hD => this ▸ hD
        refine ⟨w.heap.size :: Es, by simp [f1], List.nodup_cons.2 ⟨fun hm => ?_, f2⟩, fun D hD => ?_⟩
        · have := (Array.getElem?_eq_some_iff.1 (e3 _ (hEs _ hm)).1).1
          omega
        · rcases List.mem_cons.1 hD with rfl | hD
          · refine ⟨hr.dfr, fun hm => (hr.nb _ hm).1 rfl, fun o => ?_, hw.aside.bm⟩
            cases hm : M' w.heap.size o with
            | none => rfl
            | some v => exact absurd rfl (hr.nm _ _ _ hm).1
          · exact f3 D hD
    rintro e W2 ⟨⟨v, rfl⟩, Fp, Kp, (⟨M', ρ', σ', hr, _, _, hq⟩ | ⟨M', ρ', σ', c, ex, hr, _, _, hq, hc⟩)⟩
    · have hq : Q .normal env σ' := by
        have : (Yx.xs).drop xs.length = [] := by simp [Yx, rfSpec]
        simpa [rfK, List.drop_length] using hq
      exact ⟨none, _, run_endLoop (P := Γ.P) hr.rcd (by simp [lpOf]), M', ρ', env, σ', .normal, fin _ _ _ _ _ (hr.put _), trivial, hq⟩
    · refine ⟨some c, _, run_endLoop (P := Γ.P) hr.rcd (by simp [lpOf]), ?_⟩
      rcases hc with ⟨rfl, rfl⟩ | ⟨i, rfl, rfl⟩
      · exact wpIn_ret ⟨M', ρ', env, σ', .ret, fin _ _ _ _ _ (hr.put _), trivial, hq⟩
      · exact wpIn_exit ⟨M', ρ', env, σ', .exit i, fin _ _ _ _ _ (hr.put _), rfl, hq⟩

theorem wic_sound : ∀ (c : IC) (Q : Ex → Env → Store → Prop) (env : Env) (σ : Store), wic Γ c Q env σ → ∀ N R C, chkC Γ.P Γ.E N (Option.isSome R) c C = true → W Γ N R C Q env σ
  | .skip, Q, env, σ, h, N, R, C, hc => by
    cases C <;> simp only [chkC] at hc <;> try (cases hc; done)
    · exact W_skip h
    · exact W_label h
  | .ret, Q, env, σ, h, N, R, C, hc => by
    cases C <;> simp only [chkC] at hc <;> try (cases hc; done)
    exact W_ret h
  | .exit i, Q, env, σ, h, N, R, C, hc => by
    cases C <;> simp only [chkC] at hc <;> try (cases hc; done)
    simp at hc
    subst hc
    exact W_exit h
  | .ops l, Q, env, σ, h, N, R, C, hc => by
    cases C <;> try (simp only [chkC] at hc; cases hc; done)
    rename_i id ops draw
    cases draw <;> simp only [chkC] at hc
    · intro n s M ρ a w hw
      simp only [Bool.and_eq_true] at hc
      exact wpIn_region (wops_sound hc.1 l _ M ρ env σ a w hc.2 hw h)
    · cases hc
  | .draw t, Q, env, σ, h, N, R, C, hc => by
    cases C <;> try (simp only [chkC] at hc; cases hc; done)
    rename_i id ops draw
    cases draw <;> simp only [chkC] at hc
    · cases hc
    · simp only [Bool.and_eq_true, decide_eq_true_eq] at hc
      obtain ⟨⟨⟨⟨h1, h0⟩, h2⟩, h3⟩, h4⟩ := hc
      intro n s M ρ a w hw
      refine wpIn_region_any h1 (wpAnyIn_of wpost_out h0 _ _ _ _ (wpAny_of_L (L := []) _ _ _ _ ?_))
      have hw' : WR Γ N s M ρ env σ a { w with drawn := w.drawn + 1 } :=
        ⟨hw.stp.trans (Stp.drew hw.stp.rel), hw.slen, hw.len, hw.size, hw.aside.step (Stp.drew hw.stp.rel).ext (fun _ h => .inl h) (.inl rfl), hw.env, hw.gw, hw.nN⟩
      exact wdt_sound h2 t _ _ [] [] M ρ env σ a _ h4 h3 hw' trivial h
  | .seq x y, Q, env, σ, h, N, R, C, hc => by
    cases C <;> simp only [chkC, Bool.and_eq_true] at hc <;> try (cases hc; done)
    refine W_seq (W.mono (wic_sound x _ env σ h N R _ hc.1) fun ex env' σ' h' => ?_)
    cases ex <;> first | exact wic_sound y _ env' σ' h' N R _ hc.2 | exact h'
  | .kp l c, Q, env, σ, h, N, R, C, hc => by
    simp only [chkC] at hc
    intro n s M ρ a w hw
    exact wic_sound c Q _ σ h N R C hc n s M ρ a w (hw.keep l)
  | .cond c x y, Q, env, σ, h, N, R, C, hc => by
    cases C <;> simp only [chkC, Bool.and_eq_true] at hc <;> try (cases hc; done)
    obtain ⟨⟨h1, h2⟩, h3⟩ := hc
    intro n s M ρ a w hw
    simp only [wic] at h
    unfold condK at h
    split at h
    case h_2 => exact h.elim
    rename_i b hb
    have hr := hw.env0.rep _ _ h1
    rw [hb] at hr
    refine wpIn_cond hr.bool_inv ?_
    cases b with
    | true => exact wic_sound x Q env σ (h.1 rfl) N R _ h2 n s M ρ a w hw
    | false => exact wic_sound y Q env σ (h.2 rfl) N R _ h3 n s M ρ a w hw
  | .block i c, Q, env, σ, h, N, R, C, hc => by
    cases C <;> simp only [chkC, Bool.and_eq_true, beq_iff_eq] at hc <;> try (cases hc; done)
    obtain ⟨rfl, h1⟩ := hc
    exact W_block (wic_sound c _ env σ h N R _ h1)
  | .loop l c, Q, env, σ, h, N, R, C, hc => by
    cases C <;> simp only [chkC] at hc <;> try (cases hc; done)
    intro n s M ρ a w hw
    exact W_loop_of (h N R _ hc) n s M ρ a w (hw.keep l)
  | .scope c, Q, env, σ, h, N, R, C, hc => by
    cases C <;> simp only [chkC] at hc <;> try (cases hc; done)
    simp only [Bool.and_eq_true, Bool.not_eq_true', Option.isSome_eq_false_iff, Option.isNone_iff_eq_none] at hc
    obtain ⟨rfl, hc⟩ := hc
    intro n s M ρ a w hw
    refine wpIn_wide.2 (wp_scope_straight (wp_mono (wpIn_wide.1 (wic_sound c Q env σ h N none _ hc n s M ρ a w hw)) fun e a' w' hp => ?_))
    cases e with
    | goto l => obtain ⟨_, _, _, _, ex, _, h2, _⟩ := hp; cases ex <;> exact h2.elim
    | _ => exact hp
  | .rf g p x y, Q, env, σ, h, N, R, C, hc => by
    cases C <;> simp only [chkC] at hc <;> try (cases hc; done)
    simp only [Bool.and_eq_true, Bool.not_eq_true', Option.isSome_eq_false_iff, Option.isNone_iff_eq_none, beq_iff_eq, decide_eq_true_eq] at hc
    obtain ⟨⟨⟨⟨⟨rfl, h1⟩, rfl⟩, h2⟩, h3⟩, h4⟩ := hc
    exact rf_sound h h1 h2 (fun Q e t l hx => wic_sound x Q e t hx N (some l) _ h3) (fun Q e t l hy => wic_sound y Q e t hy N (some l) _ h4)

/-- Once round a loop. -/
theorem LP_step {l : List Nat} {c : IC} (h : wic Γ c (Ex.then (fun env' σ' => LP Γ l c Q (env'.shr σ.length σ' l) (shrink σ.length σ')) Q) env σ) : LP Γ l c Q env σ :=
  LP_unroll fun N R C hc => wic_sound c _ env σ h N R C hc

theorem wic_mono : ∀ (c : IC) {Q Q' : Ex → Env → Store → Prop} {env : Env} {σ : Store}, wic Γ c Q env σ → (∀ ex env σ, Q ex env σ → Q' ex env σ) → ∀ N R C, chkC Γ.P Γ.E N (Option.isSome R) c C = true → W Γ N R C Q' env σ :=
  fun c _ _ env σ h hq N R C hc => (wic_sound c _ env σ h N R C hc).mono hq

/-! ### A function -/
inductive RV where
  | t (n : Nat)
  | c (t n : Nat) (agg : Bool)

def RV.get (env : Env) (σ : Store) : RV → Option PV
  | .t n => some (env.get n)
  | .c b n agg => evLoad σ n agg (env.get b)
def rvs (env : Env) (σ : Store) : List RV → Option (List PV)
  | [] => some []
  | r :: l => match r.get env σ, rvs env σ l with
    | some p, some ps => some (p :: ps)
    | _, _ => none
def expR (n : Nat) (σ : Store) (p : PV) : PV := (p.argOf σ).exp n σ
def retOf (n : Nat) (σ : Store) : List PV → PV
  | [p] => expR n σ p
  | ps => .tup (ps.map (expR n σ))

/-- What is asked where a function ends. -/
def fnPost (rs : List RV) (n : Nat) (Q : Out → Store → Prop) : Ex → Env → Store → Prop
  | .normal, env, σ | .ret, env, σ => match rvs env σ rs with
    | some ps => Q (.ret (retOf n σ ps)) (shrink n σ)
    | none => False
  | .panic p, _, σ => Q (.panic (p.exp n σ)) (shrink n σ)
  | .exit _, _, _ => False

def chkRV (P : Program) : ResultVar → RV → Bool
  | .tmp t, .t n => t == n
  | .cell a t, .c b n agg => a == b && szT P t == some n && aggT P t == some agg
  | _, _ => false
def chkRVs (P : Program) : List ResultVar → List RV → Bool
  | [], [] => true
  | r :: l, q :: m => chkRV P r q && chkRVs P l m
  | _, _ => false

/-- A function in brief: its temporaries, its results, its code. -/
structure FI where
  n : Nat
  rs : List RV
  body : IC

def chkF (P : Program) (E : List (TypeId × List DK)) (f : FuncId) (nargs : Nat) (fi : FI) : Bool := match P.funcs[f]? with
  | some fn => fnOk P f && fn.ntmps == fi.n && decide (fi.n ≤ cntT) && decide (nargs ≤ fi.n) && chkRVs P fn.results.toList fi.rs && (match fn.body with
    | some C => chkC P E fi.n false fi.body C
    | none => false)
  | none => false
end
end Go.Plane
end
section
set_option linter.unusedVariables false
namespace Go.Plane
open Go

section
variable {Γ : Cfg} {M M' : Mem} {ρ ρ' : List Gh} {σ σ' : Store} {w w' : World} {N : Nat} {s : Start} {env : Env} {a : Act}

theorem env_of : ∀ (args : List PV) (k t : Nat), Env.get (args.zipIdx k |>.map fun (p, i) => (i, p)) t = if k ≤ t then (args[t - k]?).getD .undef else .undef
  | [], k, t => by simp [Env.get]
  | p :: args, k, t => by
    simp only [List.zipIdx_cons, List.map_cons, Env.get]
    rw [env_of args (k + 1) t]
    by_cases h : k = t
    · subst h; simp
    · rw [if_neg h]
      by_cases h1 : k + 1 ≤ t
      · rw [if_pos h1, if_pos (by omega), show t - k = (t - (k + 1)) + 1 by omega]; simp
      · rw [if_neg h1, if_neg (by omega)]

def rvSem (a : Act) (r : ResultVar) : Sem Value := match r with
  | .tmp t => pure (a.tmps.getD t Go.undef)
  | .cell b t => do loadVar t (← asAddr (a.tmps.getD b Go.undef))

theorem run_rv (hrel : Rel Γ M ρ σ w) (henv : ∀ t, Rep M ρ σ (a.tmps.getD t Go.undef) (env.get t)) {r : ResultVar} {q : RV} {p : PV} (hc : chkRV Γ.P r q = true) (hq : q.get env σ = some p) :
    ∃ v, Rep M ρ σ v p ∧ (rvSem a r).run Γ.P w = .ok v w := by
  cases r with
  | tmp t =>
    cases q with
    | t n =>
      simp only [chkRV, beq_iff_eq] at hc
      subst hc
      simp only [RV.get, Option.some.injEq] at hq
      subst hq
      exact ⟨_, henv t, rfl⟩
    | c b n agg => simp [chkRV] at hc
  | cell b t =>
    cases q with
    | t n => simp [chkRV] at hc
    | c b' n agg =>
      simp only [chkRV, Bool.and_eq_true, beq_iff_eq] at hc
      obtain ⟨⟨rfl, h1⟩, h2⟩ := hc
      simp only [RV.get] at hq
      obtain ⟨v, hv, hrun⟩ := yes_load (P := Γ.P) hrel (henv b) h1 h2 (match env.get b with | .ptr b _ => [b] | _ => []) (fun b' o he => by rw [he]; simp) hq
      have := hrun w (Sim.refl hrel _)
      refine ⟨v, hv, ?_⟩
      generalize hx : a.tmps.getD b Go.undef = x at this
      cases x <;> try (simp [Instr.loadAt, Instr.sureAddr, stuck] at this; done)
      rename_i ad
      cases ad with
      | none => simp [Instr.loadAt, Instr.sureAddr, stuck] at this
      | some ad =>
        simp only [rvSem, hx, asAddr]
        simpa [Instr.loadAt, Instr.sureAddr] using this

theorem run_rvs (hrel : Rel Γ M ρ σ w) (henv : ∀ t, Rep M ρ σ (a.tmps.getD t Go.undef) (env.get t)) : ∀ (rs : List ResultVar) (qs : List RV) (ps : List PV), chkRVs Γ.P rs qs = true → rvs env σ qs = some ps →
    ∃ vs : List Value, vs.length = ps.length ∧ (∀ (j : Nat) (v : Value) (p : PV), vs[j]? = some v → ps[j]? = some p → Rep M ρ σ v p) ∧
      (rs.mapM (rvSem a)).run Γ.P w = .ok vs w
  | [], [], ps, _, h => by
    simp only [rvs, Option.some.injEq] at h
    subst h
    exact ⟨[], rfl, by simp, rfl⟩
  | r :: rs, q :: qs, ps, hc, h => by
    simp only [chkRVs, Bool.and_eq_true] at hc
    simp only [rvs] at h
    split at h
    case h_2 => cases h
    rename_i p ps' hp hps
    cases h
    obtain ⟨v, hv, hrun⟩ := run_rv hrel henv hc.1 hp
    obtain ⟨vs, hl, hr, hruns⟩ := run_rvs hrel henv rs qs ps' hc.2 hps
    refine ⟨v :: vs, by simp [hl], fun j u x hu hx => ?_, ?_⟩
    · cases j with
      | zero => simp at hu hx; subst hu hx; exact hv
      | succ j => exact hr j u x (by simpa using hu) (by simpa using hx)
    · simp only [List.mapM_cons, Sem.run_bind, hrun, Result.andThen_ok, hruns, Sem.run_pure]
  | [], _ :: _, _, hc, _ => by simp [chkRVs] at hc
  | _ :: _, [], _, hc, _ => by simp [chkRVs] at hc

theorem rep_expR {v : Value} {p : PV} (h : Rep M ρ σ v p) (n : Nat) : Rep M (ρ.take n) (shrink n σ) v (expR n σ p) := by
  obtain ⟨k1, k2⟩ := h.argOf.exp n
  exact k1.tr_id (Mem.le_refl M) fun i hi => Tr.take ρ σ n (k2 i hi)

theorem marks_leave {F : Nat → Prop} {M0 : Mem} {ρ0 : List Gh} {σ0 : Store} {w0 : World} {Fe : Fence} {n : Nat} {fn : Func} {tmps : Array Value} {R : Ending → World → Prop} {u : FrameMode} (hu : u ≠ .run) : ∀ (Ds : List Nat) (w : World),
    StpF Γ F M0 ρ0 σ0 w0 M ρ σ w → Ds.Nodup → (∀ D ∈ Ds, w.heap[D]? = some (.deferred (some [])) ∧ D ∉ blks ρ ∧ (∀ o, M D o = none) ∧ w0.heap.size ≤ D) →
    (∀ w', StpF Γ F M0 ρ0 σ0 w0 M ρ σ w' → LeavesIn Fe n Γ.P fn tmps R [] u w') → LeavesInM Fe n Γ.P fn tmps R (Ds.map fun D => ({ target := .collected D, args := #[] } : Deferred)) u w
  | [], w, hs, _, _, hk => hk w hs
  | D :: Ds, w, hs, hn, hm, hk => by
    obtain ⟨h1, h2, h3, h4⟩ := hm D List.mem_cons_self
    refine ⟨hu, .inl ⟨D, _, rfl, run_takeDeferred h1, ?_⟩⟩
    refine marks_leave hu Ds _ (hs.put (shape_dfr h1) _ h2 (fun o v hv => by rw [h3] at hv; cases hv) (.inr h4)) (List.nodup_cons.1 hn).2 (fun E hE => ?_) hk
    obtain ⟨k1, k2⟩ := hm E (List.mem_cons_of_mem _ hE)
    refine ⟨(World.putObj_heap_other fun he => ?_).trans k1, k2⟩
    subst he
    exact (List.nodup_cons.1 hn).1 hE

theorem chkF_spec {f : FuncId} {n : Nat} {fi : FI} (hc : chkF Γ.P Γ.E f n fi = true) : ∃ fn C, Γ.P.funcs[f]? = some fn ∧ fn.body = some C ∧ fnOk Γ.P f = true ∧ fn.ntmps = fi.n ∧ fi.n ≤ cntT ∧ n ≤ fi.n ∧ chkRVs Γ.P fn.results.toList fi.rs = true ∧ chkC Γ.P Γ.E fi.n false fi.body C = true := by
  unfold chkF at hc
  split at hc
  case h_2 => cases hc
  rename_i fn hfn
  simp only [Bool.and_eq_true, beq_iff_eq, decide_eq_true_eq] at hc
  obtain ⟨⟨⟨⟨⟨h1, h2⟩, h0⟩, h3⟩, h4⟩, h5⟩ := hc
  split at h5
  case h_2 => cases h5
  rename_i C hC
  exact ⟨fn, C, hfn, hC, h1, h2, h0, h3, h4, h5⟩

/-- **A function's contract, out of its code.** -/
theorem T_of {f : FuncId} {args : List PV} {Q : Out → Store → Prop} {fi : FI} (hc : chkF Γ.P Γ.E f args.length fi = true) (h : wic Γ fi.body (fnPost fi.rs σ.length Q) (Env.of args) σ) : T Γ f args σ Q := by
  obtain ⟨fn, C, hfn, hC, h1, h2, h0, h3, h4, h5⟩ := chkF_spec hc
  refine ⟨h1, fun M ρ w vs hrel hgw hl ha => ?_⟩
  refine (callsIn_wide (n := 0)).1 (callsIn_of_wp_marks hfn hC trivial ?_)
  have henv : ∀ t, Rep M ρ σ ((vs.toArray ++ Array.replicate (fn.ntmps - vs.toArray.size) Go.undef).getD t Go.undef) ((Env.of args).get t) := by
    intro t
    rw [Env.of, env_of args 0 t, if_pos (Nat.zero_le t), Nat.sub_zero]
    cases he : args[t]? with
    | none => exact .undef _
    | some p =>
      have ht : t < vs.length := by rw [hl]; exact (List.getElem?_eq_some_iff.1 he).1
      have hv : vs[t]? = some vs[t] := List.getElem?_eq_getElem ht
      have : (vs.toArray ++ Array.replicate (fn.ntmps - vs.toArray.size) Go.undef).getD t Go.undef = vs[t] := by
        rw [Array.getD_eq_getD_getElem?, Array.getElem?_append_left (by simpa using ht)]
        simp [ht]
      rw [this]
      exact ha t _ p hv he
  have hcnt : (Env.of args).get cntT = .undef := by
    rw [Env.of, env_of args 0 cntT, if_pos (Nat.zero_le _), Nat.sub_zero, List.getElem?_eq_none (by omega)]
    rfl
  have hw : WR Γ fi.n ⟨M, ρ, σ, w, fun _ => False, w.heap.size⟩ M ρ (Env.of args) σ { tmps := vs.toArray ++ Array.replicate (fn.ntmps - vs.toArray.size) Go.undef, defers := [] } w :=
    ⟨(Stp.refl hrel).F _, hrel.len, Nat.le_refl _, by simp; omega, Aside.none (by rw [hcnt]; rfl) (Nat.le_refl _), henv, hgw, h0⟩
  refine wpIn_mono (wic_sound fi.body _ _ σ h fi.n none C h5 0 _ M ρ _ w hw) fun e a' w' hp => ?_
  obtain ⟨M', ρ', env', σ', ex, k1, k2, k3⟩ := hp
  have hlen : (shrink σ.length σ').length = σ.length := by
    have := k1.len
    simp only [shrink, List.length_map, List.length_take]
    exact Nat.min_eq_left this
  obtain ⟨Ds, e1, e2, e3⟩ := k1.aside.marks
  have hend : ∀ ps, rvs env' σ' fi.rs = some ps → Q (.ret (retOf σ.length σ' ps)) (shrink σ.length σ') →
      LeavesInM Fence.wide 0 Γ.P fn a'.tmps (fun e w' => ∃ M' ρ' σ' o, Stp Γ M ρ σ w M' ρ' σ' w' ∧ σ'.length = σ.length ∧ RepOut M' ρ' σ' e o ∧ Q o σ') a'.defers .returning w' := by
    intro ps hps hQ
    rw [e1]
    refine marks_leave (by simp) Ds w' k1.stp e2 e3 fun w'' hs => ?_
    obtain ⟨us, hul, hur, hrun⟩ := run_rvs (a := a') hs.rel k1.env _ _ ps h4 hps
    refine ⟨(if h : us.toArray.size = 1 then us.toArray[0] else .tuple us.toArray), ?_, M', ρ'.take σ.length, shrink σ.length σ', .ret (retOf σ.length σ' ps), (stp_shrink hs hrel.len (Nat.le_refl _)).stp fun _ _ h => h, hlen, ?_, hQ⟩
    · unfold results
      rw [Array.mapM_eq_mapM_toList]
      simp only [map_eq_pure_bind, Sem.run_bind]
      refine (congrArg (fun r => Result.andThen (Result.andThen r fun l w => Sem.run Γ.P (pure l.toArray) w) _) hrun).trans ?_
      simp
    · match ps, us, hul, hur with
      | [p], [u], _, hur => exact rep_expR (hur 0 u p rfl rfl) _
      | [], [], _, _ => exact .tup [] [] rfl (by simp)
      | p :: q :: ps, u :: x :: us, hul, hur =>
        simp only [RepOut, retOf]
        rw [dif_neg (by simp)]
        refine .tup _ _ (by simpa using hul) fun j v y hv hy => ?_
        rw [List.getElem?_map] at hy
        obtain ⟨z, hz, rfl⟩ := Option.map_eq_some_iff.1 hy
        exact rep_expR (hur j v z hv hz) _
      | [], _ :: _, hul, _ => simp at hul
      | _ :: _, [], hul, _ => simp at hul
      | [_], _ :: _ :: _, hul, _ => simp at hul
      | _ :: _ :: _, [_], hul, _ => simp at hul
  cases e with
  | normal =>
    cases ex <;> simp only [RepEx] at k2
    simp only [fnPost] at k3
    split at k3
    · exact hend _ ‹_› k3
    · exact k3.elim
  | ret =>
    cases ex <;> simp only [RepEx] at k2
    simp only [fnPost] at k3
    split at k3
    · exact hend _ ‹_› k3
    · exact k3.elim
  | panic ch =>
    cases ex <;> try exact k2.elim
    rename_i p
    obtain ⟨_, v, hv, hr⟩ := k2
    obtain ⟨r1, r2⟩ := hr.exp σ.length
    show LeavesInM _ _ _ _ _ _ _ _ _
    rw [e1]
    refine marks_leave (by simp) Ds w' k1.stp e2 e3 fun w'' hs => ?_
    exact ⟨M', ρ'.take σ.length, shrink σ.length σ', .panic (p.exp σ.length σ'), (stp_shrink hs hrel.len (Nat.le_refl _)).stp fun _ _ h => h, hlen,
      ⟨v, hv, r1.tr_id (Mem.le_refl _) fun i hi => Tr.take _ _ _ (r2 i hi)⟩, k3⟩
  | exit i => cases ex <;> first | exact k2.elim | exact k3.elim
  | goto l => cases ex <;> exact k2.elim
  | outgrown => cases ex <;> exact k2.elim

/-- What is asked where an iterator ends. -/
def itPost (n : Nat) : Ex → Env → Store → Prop
  | .normal, env, _ | .ret, env, _ => env.get cntT = .cnt n ∨ env.get cntT = .stp
  | _, _, _ => False

/-- **An iterator's contract, out of its code.** -/
theorem Iter_of {f : FuncId} {caps : List PV} {xs : List (List D)} {fi : FI} (hc : chkF Γ.P Γ.E f (caps.length + 1) fi = true) (hrs : fi.rs = []) (hflat : ∀ x ∈ xs, ∀ d ∈ x, ∀ l, d ≠ .slice l)
    (h : ∀ Y : YSpec Γ.P, Y.xs = xs → wic { Γ with Y := Y } fi.body (itPost xs.length) ((Env.of (.yl Y.l :: caps)).put cntT (.cnt 0)) []) : Iter Γ f caps xs := by
  obtain ⟨fn, C, hfn, hC, h1, h2, h0, h3, h4, h5⟩ := chkF_spec hc
  refine ⟨h1, hflat, fun Y hY w vs Fp Kp hrel hgw hl ha hJ => ?_⟩
  refine calls_of_wp hfn hC ?_
  have hrel' : Rel { Γ with Y := Y } Y.B [] [] w := ⟨hrel.gl, hrel.mem, hrel.len, hrel.box, hrel.lst, hrel.inj⟩
  have henv : ∀ t, Rep Y.B [] [] (((Value.func (.yield Y.l) #[] #[] :: vs).toArray ++ Array.replicate (fn.ntmps - (Value.func (.yield Y.l) #[] #[] :: vs).toArray.size) Go.undef).getD t Go.undef) ((Env.of (.yl Y.l :: caps)).get t) := by
    intro t
    rw [Env.of, env_of _ 0 t, if_pos (Nat.zero_le t), Nat.sub_zero]
    cases he : (PV.yl Y.l :: caps)[t]? with
    | none => exact .undef _
    | some p =>
      have ht : t < (Value.func (.yield Y.l) #[] #[] :: vs).length := by simp only [List.length_cons, hl]; exact (List.getElem?_eq_some_iff.1 he).1
      have : ((Value.func (.yield Y.l) #[] #[] :: vs).toArray ++ Array.replicate (fn.ntmps - (Value.func (.yield Y.l) #[] #[] :: vs).toArray.size) Go.undef).getD t Go.undef = (Value.func (.yield Y.l) #[] #[] :: vs)[t] := by
        rw [Array.getD_eq_getD_getElem?, Array.getElem?_append_left (by simpa using ht), List.getElem?_toArray, List.getElem?_eq_getElem ht]
        rfl
      rw [this]
      cases t with
      | zero => simp at he; subst he; exact .yl _
      | succ t => exact ha t _ p (List.getElem?_eq_getElem (by simpa using ht)) (by simpa using he)
  have hw : WR { Γ with Y := Y } fi.n ⟨Y.B, [], [], w, Fp, w.heap.size⟩ Y.B [] ((Env.of (.yl Y.l :: caps)).put cntT (.cnt 0)) [] { tmps := (Value.func (.yield Y.l) #[] #[] :: vs).toArray ++ Array.replicate (fn.ntmps - (Value.func (.yield Y.l) #[] #[] :: vs).toArray.size) Go.undef, defers := [] } w := by
    refine ⟨(Stp.refl hrel').F _, rfl, Nat.le_refl _, by simp; omega, ⟨fun k hk => ?_, fun hk => ?_, ⟨[], rfl, List.nodup_nil, by simp⟩, Nat.le_refl _⟩, fun t => ?_, hgw, h0⟩
    · simp only [Env.put, Env.get, if_true, PV.cnt.injEq] at hk
      subst hk
      exact ⟨Fp, Kp, hJ, ⟨by simp [blks], by simp [blks], fun b o v hm => .inr hm⟩, fun b hb => .inl hb, rfl⟩
    · simp [Env.put, Env.get] at hk
    · simp only [Env.put, Env.get]
      split
      · exact .cnt _ _
      · exact henv t
  refine wp_mono (wpIn_wide.1 (wic_sound (Γ := { Γ with Y := Y }) fi.body _ _ [] (h Y hY) fi.n none C h5 0 _ Y.B [] _ w hw)) fun e a' w' hp => ?_
  obtain ⟨M', ρ', env', σ', ex, k1, k2, k3⟩ := hp
  have hend : (env'.get cntT = .cnt xs.length ∨ env'.get cntT = .stp) → a'.defers = [] ∧ ∃ v, (results fn a'.tmps).run Γ.P w' = .ok v w' ∧ ((∃ v', Ending.returned v = .returned v') ∧ ∃ Fp' Kp', Y.J xs.length Fp' Kp' w' ∨ Y.Jx Fp' Kp' w') := by
    intro hx
    have hres : fn.results.toList = [] := by
      rw [hrs] at h4
      cases hr : fn.results.toList with
      | nil => rfl
      | cons a l => rw [hr] at h4; simp [chkRVs] at h4
    have hres' : fn.results = #[] := by apply Array.ext'; simpa using hres
    have hrun : (results fn a'.tmps).run Γ.P w' = .ok (.tuple #[]) w' := by
      unfold results
      rw [hres']
      simp
    rcases hx with hx | hx
    · obtain ⟨Fp', Kp', g1, _, _, g2⟩ := k1.aside.gh _ hx
      exact ⟨g2, _, hrun, ⟨_, rfl⟩, Fp', Kp', .inl g1⟩
    · obtain ⟨Fp', Kp', g1, _, g2⟩ := k1.aside.gx hx
      exact ⟨g2, _, hrun, ⟨_, rfl⟩, Fp', Kp', .inr g1⟩
  cases e with
  | normal => cases ex <;> simp only [RepEx] at k2; exact hend k3
  | ret => cases ex <;> simp only [RepEx] at k2; exact hend k3
  | panic ch => cases ex <;> first | exact k2.elim | exact k3.elim
  | exit i => cases ex <;> first | exact k2.elim | exact k3.elim
  | goto l => cases ex <;> exact k2.elim
  | outgrown => cases ex <;> exact k2.elim
end
end Go.Plane
end
section
set_option linter.unusedVariables false
namespace Go.Plane
open Go

section
variable {Γ : Cfg} {env : Env} {σ : Store} {Q : Ex → Env → Store → Prop} {K : Env → Store → Prop}

theorem wic_skip (h : Q .normal env σ) : wic Γ .skip Q env σ := h
theorem wic_ret (h : Q .ret env σ) : wic Γ .ret Q env σ := h
theorem wic_exit {i : Nat} (h : Q (.exit i) env σ) : wic Γ (.exit i) Q env σ := h
theorem wic_ops {l : List Ac} (h : wops Γ l Q env σ) : wic Γ (.ops l) Q env σ := h
theorem wic_draw {t : DT} (h : wdt Γ Q t [] env σ) : wic Γ (.draw t) Q env σ := h
theorem wic_seq {a b : IC} (h : wic Γ a (Ex.then (fun e s => wic Γ b Q e s) Q) env σ) : wic Γ (.seq a b) Q env σ := h
theorem wic_scope {c : IC} (h : wic Γ c Q env σ) : wic Γ (.scope c) Q env σ := h
theorem wic_kp {l : List Nat} {c : IC} {env' : Env} (he : env.keep l = env') (h : wic Γ c Q env' σ) : wic Γ (.kp l c) Q env σ := by subst he; exact h
theorem wic_block {i : Nat} {c : IC} (h : wic Γ c (Ex.inBlock i Q) env σ) : wic Γ (.block i c) Q env σ := h
theorem wic_loop {l : List Nat} {c : IC} {env' : Env} (he : env.keep l = env') (h : LP Γ l c Q env' σ) : wic Γ (.loop l c) Q env σ := by subst he; exact h
theorem wic_cond {c : Opd} {a b : IC} {x : Bool} (hx : c.val env = .d (.bool x)) (h : (x = true → wic Γ a Q env σ) ∧ (x = false → wic Γ b Q env σ)) : wic Γ (.cond c a b) Q env σ := by
  simp only [wic, condK, hx]; exact h

theorem then_normal (h : K env σ) : Ex.then K Q .normal env σ := h
theorem then_ret (h : Q .ret env σ) : Ex.then K Q .ret env σ := h
theorem then_exit {i : Nat} (h : Q (.exit i) env σ) : Ex.then K Q (.exit i) env σ := h
theorem then_panic {p : PV} (h : Q (.panic p) env σ) : Ex.then K Q (.panic p) env σ := h
theorem block_normal {i : Nat} (h : Q .normal env σ) : Ex.inBlock i Q .normal env σ := h
theorem block_ret {i : Nat} (h : Q .ret env σ) : Ex.inBlock i Q .ret env σ := h
theorem block_panic {i : Nat} {p : PV} (h : Q (.panic p) env σ) : Ex.inBlock i Q (.panic p) env σ := h
theorem block_hit {i : Nat} (h : Q .normal env σ) : Ex.inBlock i Q (.exit i) env σ := by simp only [Ex.inBlock, ↓reduceIte]; exact h
theorem block_miss {i j : Nat} (hn : Nat.beq j i = false) (h : Q (.exit j) env σ) : Ex.inBlock i Q (.exit j) env σ := by
  have : j ≠ i := fun he => by subst he; simp at hn
  simp only [Ex.inBlock, if_neg this]; exact h

theorem fn_normal {rs : List RV} {n : Nat} {F : Out → Store → Prop} {ps : List PV} {p : PV} {σ' : Store} (h1 : rvs env σ rs = some ps) (h2 : retOf n σ ps = p) (h3 : shrink n σ = σ') (h : F (.ret p) σ') : fnPost rs n F .normal env σ := by
  subst h2 h3; simp only [fnPost, h1]; exact h
theorem fn_ret {rs : List RV} {n : Nat} {F : Out → Store → Prop} {ps : List PV} {p : PV} {σ' : Store} (h1 : rvs env σ rs = some ps) (h2 : retOf n σ ps = p) (h3 : shrink n σ = σ') (h : F (.ret p) σ') : fnPost rs n F .ret env σ := by
  subst h2 h3; simp only [fnPost, h1]; exact h
theorem fn_panic {rs : List RV} {n : Nat} {F : Out → Store → Prop} {p p' : PV} {σ' : Store} (h2 : p.exp n σ = p') (h3 : shrink n σ = σ') (h : F (.panic p') σ') : fnPost rs n F (.panic p) env σ := by
  subst h2 h3; exact h

theorem ops_nil (h : Q .normal env σ) : wops Γ [] Q env σ := h
theorem ops_qn {o : QOp} {r : List Ac} {p : PV} (hp : evq σ (Opd.val env) o = some p) (h : wops Γ r Q env σ) : wops Γ (.q none none o :: r) Q env σ := by
  simp only [wops, wio, guarded, hp, optK]; exact h
theorem ops_q {d : Nat} {o : QOp} {r : List Ac} {p : PV} (hp : evq σ (Opd.val env) o = some p) (h : wops Γ r Q ((d, p) :: env) σ) : wops Γ (.q none (some d) o :: r) Q env σ := by
  simp only [wops, wio, guarded, hp, optK]; exact h
theorem ops_en {o : EOp} {r : List Ac} {p : PV} {σ' : Store} (hp : eve σ (Opd.val env) o = some (p, σ')) (h : wops Γ r Q env σ') : wops Γ (.e none none o :: r) Q env σ := by
  simp only [wops, wio, guarded, hp, optK]; exact h
theorem ops_e {d : Nat} {o : EOp} {r : List Ac} {p : PV} {σ' : Store} (hp : eve σ (Opd.val env) o = some (p, σ')) (h : wops Γ r Q ((d, p) :: env) σ') : wops Γ (.e none (some d) o :: r) Q env σ := by
  simp only [wops, wio, guarded, hp, optK]; exact h
theorem ops_call {dst : Option Nat} {f : FuncId} {args : List Opd} {r : List Ac} {az : List PV} (ha : args.map (Opd.val env) = az) (h : wcall Γ f az σ (onOut Q env dst fun e s => wops Γ r Q e s)) : wops Γ (.call none dst f args :: r) Q env σ := by
  subst ha; exact h
theorem ops_callv {dst : Option Nat} {x : Opd} {f : FuncId} {pre caps : List PV} {args : List Opd} {r : List Ac} {az : List PV} (hx : x.val env = .fn f pre caps) (ha : pre ++ args.map (Opd.val env) ++ caps = az)
    (h : wcall Γ f az σ (onOut Q env dst fun e s => wops Γ r Q e s)) : wops Γ (.callv none dst x args :: r) Q env σ := by
  subst ha; simp only [wops, wio, guarded, hx, stepV]; exact h
theorem ops_panic {x : Opd} {r : List Ac} {t : TypeId} {cs : List D} (hx : x.val env = .iface t cs) (h : Q (.panic (.iface t cs)) [] σ) : wops Γ (.panic none x :: r) Q env σ := by
  simp only [wops, wio, guarded, hx, stepP]; exact h
theorem ops_own {t : Nat} {sz : TypeId × Nat} {r : List Ac} (h : stepOwn σ env t sz fun e s => wops Γ r Q e s) : wops Γ (.own t sz :: r) Q env σ := h
theorem ops_ownb {t off : Nat} {sz : TypeId × Nat} {r : List Ac} (h : stepOwnB σ env t off sz fun s => wops Γ r Q env s) : wops Γ (.ownb t off sz :: r) Q env σ := h

/-- Behind a guard: az if it stood by itself; or nothing. -/
def Ac.bare : Ac → Ac
  | .q _ d o => .q none d o
  | .e _ d o => .e none d o
  | .call _ d f az => .call none d f az
  | .callv _ d x az => .callv none d x az
  | .panic _ x => .panic none x
  | x => x
def Ac.gd : Ac → Gd
  | .q g _ _ | .e g _ _ | .call g _ _ _ | .callv g _ _ _ | .panic g _ => g
  | _ => none
def Ac.dst : Ac → Option Nat
  | .q _ d _ | .e _ d _ | .call _ d _ _ | .callv _ d _ _ => d
  | _ => none
theorem wio_guard {io : Ac} {t : Nat} {b x : Bool} (hg : io.gd = some (t, b)) (hx : env.get t = .d (.bool x))
    (h : (x = b → wio Γ Q (env.put t (.d (.bool b))) σ K io.bare) ∧ (x = (!b) → K ((env.put t (.d (.bool !b))).putO io.dst (.tup [])) σ)) : wio Γ Q env σ K io := by
  cases io <;> simp only [Ac.gd] at hg <;> try (cases hg; done)
  all_goals subst hg; simp only [wio, guarded, hx, guardK]; exact h
theorem ops_gt {io : Ac} {r : List Ac} {t d : Nat} {x : Bool} (hg : io.gd = some (t, true)) (hd : io.dst = some d) (hx : env.get t = .d (.bool x))
    (h : (x = true → wops Γ (io.bare :: r) Q ((t, .d (.bool true)) :: env) σ) ∧ (x = false → wops Γ r Q ((d, .tup []) :: (t, .d (.bool false)) :: env) σ)) : wops Γ (io :: r) Q env σ :=
  wio_guard hg hx (by rw [hd]; exact h)
theorem ops_gtn {io : Ac} {r : List Ac} {t : Nat} {x : Bool} (hg : io.gd = some (t, true)) (hd : io.dst = none) (hx : env.get t = .d (.bool x))
    (h : (x = true → wops Γ (io.bare :: r) Q ((t, .d (.bool true)) :: env) σ) ∧ (x = false → wops Γ r Q ((t, .d (.bool false)) :: env) σ)) : wops Γ (io :: r) Q env σ :=
  wio_guard hg hx (by rw [hd]; exact h)
theorem ops_gf {io : Ac} {r : List Ac} {t d : Nat} {x : Bool} (hg : io.gd = some (t, false)) (hd : io.dst = some d) (hx : env.get t = .d (.bool x))
    (h : (x = false → wops Γ (io.bare :: r) Q ((t, .d (.bool false)) :: env) σ) ∧ (x = true → wops Γ r Q ((d, .tup []) :: (t, .d (.bool true)) :: env) σ)) : wops Γ (io :: r) Q env σ :=
  wio_guard hg hx (by rw [hd]; exact h)
theorem ops_gfn {io : Ac} {r : List Ac} {t : Nat} {x : Bool} (hg : io.gd = some (t, false)) (hd : io.dst = none) (hx : env.get t = .d (.bool x))
    (h : (x = false → wops Γ (io.bare :: r) Q ((t, .d (.bool false)) :: env) σ) ∧ (x = true → wops Γ r Q ((t, .d (.bool true)) :: env) σ)) : wops Γ (io :: r) Q env σ :=
  wio_guard hg hx (by rw [hd]; exact h)
theorem out_retn {p : PV} (h : K env σ) : onOut Q env none K (.ret p) σ := h
theorem out_ret {d : Nat} {p : PV} (h : K ((d, p) :: env) σ) : onOut Q env (some d) K (.ret p) σ := h
theorem out_panic {dst : Option Nat} {p : PV} (h : Q (.panic p) [] σ) : onOut Q env dst K (.panic p) σ := h

theorem fn_of {f : FuncId} {args : List PV} {F : Out → Store → Prop} {n : Nat} {rs : List RV} {body : IC} {env' : Env} {k : Nat} (hc : chkF Γ.P Γ.E f k ⟨n, rs, body⟩ = true) (hk : args.length = k) (he : Env.of args = env') (h : wic Γ body (fnPost rs σ.length F) env' σ) : T Γ f args σ F := by
  subst he hk; exact T_of hc h


/-- A guard that was itself passed over. -/
theorem wio_off {io : Ac} {t : Nat} {b : Bool} (hg : io.gd = some (t, b)) (hx : env.get t = .tup []) (hp : ∀ g x, io ≠ .panic g x) (h : K (env.putO io.dst (.tup [])) σ) : wio Γ Q env σ K io := by
  cases io <;> simp only [Ac.gd] at hg <;> try (cases hg; done)
  all_goals first | (subst hg; simp only [wio, guarded, hx, guardK]; exact h) | (exact absurd rfl (hp _ _))
theorem ops_off {io : Ac} {r : List Ac} {t d : Nat} {b : Bool} (hg : io.gd = some (t, b)) (hd : io.dst = some d) (hx : env.get t = .tup []) (hp : ∀ g x, io ≠ .panic g x) (h : wops Γ r Q ((d, .tup []) :: env) σ) : wops Γ (io :: r) Q env σ :=
  wio_off hg hx hp (by rw [hd]; exact h)
theorem io_off {io : Ac} {t d : Nat} {b : Bool} (hg : io.gd = some (t, b)) (hd : io.dst = some d) (hx : env.get t = .tup []) (hp : ∀ g x, io ≠ .panic g x) (h : K ((d, .tup []) :: env) σ) : wio Γ Q env σ K io :=
  wio_off hg hx hp (by rw [hd]; exact h)

/-! ### One operation, in whatever order -/
theorem io_qn {o : QOp} {p : PV} (hp : evq σ (Opd.val env) o = some p) (h : K env σ) : wio Γ Q env σ K (.q none none o) := by
  simp only [wio, guarded, hp, optK]; exact h
theorem io_q {d : Nat} {o : QOp} {p : PV} (hp : evq σ (Opd.val env) o = some p) (h : K ((d, p) :: env) σ) : wio Γ Q env σ K (.q none (some d) o) := by
  simp only [wio, guarded, hp, optK]; exact h
theorem io_en {o : EOp} {p : PV} {σ' : Store} (hp : eve σ (Opd.val env) o = some (p, σ')) (h : K env σ') : wio Γ Q env σ K (.e none none o) := by
  simp only [wio, guarded, hp, optK]; exact h
theorem io_e {d : Nat} {o : EOp} {p : PV} {σ' : Store} (hp : eve σ (Opd.val env) o = some (p, σ')) (h : K ((d, p) :: env) σ') : wio Γ Q env σ K (.e none (some d) o) := by
  simp only [wio, guarded, hp, optK]; exact h
theorem io_call {dst : Option Nat} {f : FuncId} {args : List Opd} {az : List PV} (ha : args.map (Opd.val env) = az) (h : wcall Γ f az σ (onOut Q env dst K)) : wio Γ Q env σ K (.call none dst f args) := by
  subst ha; exact h
theorem io_callv {dst : Option Nat} {x : Opd} {f : FuncId} {pre caps : List PV} {args : List Opd} {az : List PV} (hx : x.val env = .fn f pre caps) (ha : pre ++ args.map (Opd.val env) ++ caps = az)
    (h : wcall Γ f az σ (onOut Q env dst K)) : wio Γ Q env σ K (.callv none dst x args) := by
  subst ha; simp only [wio, guarded, hx, stepV]; exact h
theorem io_gt {io : Ac} {t d : Nat} {x : Bool} (hg : io.gd = some (t, true)) (hd : io.dst = some d) (hx : env.get t = .d (.bool x))
    (h : (x = true → wio Γ Q ((t, .d (.bool true)) :: env) σ K io.bare) ∧ (x = false → K ((d, .tup []) :: (t, .d (.bool false)) :: env) σ)) : wio Γ Q env σ K io :=
  wio_guard hg hx (by rw [hd]; exact h)
theorem io_gf {io : Ac} {t d : Nat} {x : Bool} (hg : io.gd = some (t, false)) (hd : io.dst = some d) (hx : env.get t = .d (.bool x))
    (h : (x = false → wio Γ Q ((t, .d (.bool false)) :: env) σ K io.bare) ∧ (x = true → K ((d, .tup []) :: (t, .d (.bool true)) :: env) σ)) : wio Γ Q env σ K io :=
  wio_guard hg hx (by rw [hd]; exact h)

theorem dt_done {L : List (Nat × List Nat)} (h : Q .normal env σ) : wdt Γ Q .done L env σ := h
theorem dt_br {L : List (Nat × List Nat)} {b : DB} (h : wdb Γ Q b L env σ) : wdt Γ Q (.br b) L env σ := h
theorem dt_q {L : List (Nat × List Nat)} {i : Nat} {io : Ac} {next : DT} (h : wio Γ Q env σ (fun e s => wdt Γ Q next ((i, footOf env io) :: L) e s) io) : wdt Γ Q (.q i io next) L env σ := h
theorem db_nil {L : List (Nat × List Nat)} : wdb Γ Q .nil L env σ := trivial
theorem db_cons {L : List (Nat × List Nat)} {i : Nat} {ws : List Nat} {io : Ac} {t : DT} {r : DB} (ha : apartL ws (touchOf env σ io) L = true)
    (h : wio Γ Q env σ (fun e s => wdt Γ Q t L e s) io) (hr : wdb Γ Q r L env σ) : wdb Γ Q (.cons i ws io t r) L env σ := ⟨⟨ha, h⟩, hr⟩

theorem sp_tt {A B : Prop} (h : A) : (true = true → A) ∧ (true = false → B) := ⟨fun _ => h, nofun⟩
theorem sp_ft {A B : Prop} (h : B) : (false = true → A) ∧ (false = false → B) := ⟨nofun, fun _ => h⟩
theorem sp_tf {A B : Prop} (h : B) : (true = false → A) ∧ (true = true → B) := ⟨nofun, fun _ => h⟩
theorem sp_ff {A B : Prop} (h : A) : (false = false → A) ∧ (false = true → B) := ⟨fun _ => h, nofun⟩
theorem sp_dt {A B p : Prop} [Decidable p] (h1 : p → A) (h2 : ¬p → B) : (decide p = true → A) ∧ (decide p = false → B) := ⟨fun h => h1 (of_decide_eq_true h), fun h => h2 (of_decide_eq_false h)⟩
theorem sp_df {A B p : Prop} [Decidable p] (h1 : ¬p → A) (h2 : p → B) : (decide p = false → A) ∧ (decide p = true → B) := ⟨fun h => h1 (of_decide_eq_false h), fun h => h2 (of_decide_eq_true h)⟩
theorem sp_xt {A B : Prop} {x : Bool} (h1 : x = true → A) (h2 : x = false → B) : (x = true → A) ∧ (x = false → B) := ⟨h1, h2⟩
theorem sp_xf {A B : Prop} {x : Bool} (h1 : x = false → A) (h2 : x = true → B) : (x = false → A) ∧ (x = true → B) := ⟨h1, h2⟩

/-! ### Loops -/
theorem LP_go {l : List Nat} {c : IC} (h : wic Γ c (Ex.then (fun e s => LP Γ l c Q (e.shr σ.length s l) (shrink σ.length s)) Q) env σ) : LP Γ l c Q env σ := LP_step h
theorem LP_at {l : List Nat} {c : IC} {env' : Env} {σ' : Store} (he : env = env') (hs : σ = σ') (h : LP Γ l c Q env' σ') : LP Γ l c Q env σ := by subst he hs; exact h
/-- By what grows less. -/
theorem LP_ind {α : Type} {l : List Nat} {c : IC} (m : α → Nat) (E : α → Env) (S : α → Store) (I : α → Prop) (a0 : α) (he : E a0 = env) (hs : S a0 = σ) (h0 : I a0)
    (h : ∀ a, I a → (∀ b, I b → m b < m a → LP Γ l c Q (E b) (S b)) → LP Γ l c Q (E a) (S a)) : LP Γ l c Q env σ := by
  subst he hs
  have : ∀ n a, m a < n → I a → LP Γ l c Q (E a) (S a) := by
    intro n
    induction n with
    | zero => intro a h; omega
    | succ n ih => exact fun a hm hI => h a hI fun b hb hlt => ih b (by omega) hb
  exact this (m a0 + 1) a0 (by omega) h0

/-! ### Calls -/
/-- A value for values. -/
def F (Γ : Cfg) (f : FuncId) (az : List PV) (v : PV) : Prop := T Γ f az [] fun o σ => o = .ret v ∧ σ = []

theorem ren_nil {r : Nat → Nat} {p : PV} (h : p.ids = []) : p.ren r = p := PV.ren_eq r p (by rw [h]; simp)

theorem call_F {f : FuncId} {az as' : List PV} {v : PV} {K : Out → Store → Prop} (hF : F Γ f as' v) (ha : az.map (PV.argOf σ) = as') (hi : PV.ids.idsL as' = []) (hv : v.ids = []) (h : K (.ret v) σ) : wcall Γ f az σ K := by
  refine .inl ?_
  rw [ha]
  have hpi : piOf σ as' = [] := by simp [piOf, hi, reach]
  rw [hpi]
  refine ⟨by simp [closedB, nodupB, hi], ?_⟩
  have hm : as'.map (PV.ren fun j => ([] : List Nat).idxOf j) = as' := by
    have : ∀ l : List PV, PV.ids.idsL l = [] → l.map (PV.ren fun j => ([] : List Nat).idxOf j) = l := by
      intro l
      induction l with
      | nil => intro _; rfl
      | cons p l ih =>
        intro h
        simp only [PV.ids.idsL, List.append_eq_nil_iff] at h
        rw [List.map_cons, ren_nil h.1, ih h.2]
    exact this as' hi
  rw [hm]
  refine T.mono hF fun o σ' h' => ?_
  obtain ⟨rfl, rfl⟩ := h'
  simp only [Out.ren, ren_nil hv, List.map_nil, updL]
  exact h
end

/-- What is computed at a step. -/
theorem get_nil (t : Nat) : Env.get [] t = .undef := rfl
theorem get_cons (k t : Nat) (p : PV) (e : Env) : Env.get ((k, p) :: e) t = if k = t then p else Env.get e t := rfl
theorem val_t (e : Env) (n : Nat) : Opd.val e (.t n) = e.get n := rfl
theorem val_f (e : Env) (id : FuncId) : Opd.val e (.f id) = .fn id [] [] := rfl
theorem val_k (e : Env) (p : PV) : Opd.val e (.k p) = p := rfl
end Go.Plane
end
section
set_option linter.unusedVariables false
namespace Go.Plane
open Go Go.RowKit

section
variable {Γ : Cfg} {M M' : Mem} {w : World}

def RepL (M : Mem) (vs : List Value) (az : List PV) : Prop := vs.length = az.length ∧ ∀ (j : Nat) (v : Value) (p : PV), vs[j]? = some v → az[j]? = some p → Rep M [] [] v p

theorem RepL.cons_inv {vs : List Value} {p : PV} {az : List PV} (h : RepL M vs (p :: az)) : ∃ v vs', vs = v :: vs' ∧ Rep M [] [] v p ∧ RepL M vs' az := by
  cases vs with
  | nil => exact absurd h.1 (by simp)
  | cons v vs' => exact ⟨v, vs', rfl, h.2 0 v p rfl rfl, Nat.succ.inj h.1, fun j u q hu hq => h.2 (j + 1) u q hu hq⟩
theorem RepL.nil_inv {vs : List Value} (h : RepL M vs []) : vs = [] := List.eq_nil_of_length_eq_zero h.1
theorem Rep.str_inv {v : Value} {l : List UInt8} (h : Rep M [] [] v (.d (.str l))) : ∃ s : ByteArray, v = .string s ∧ s.data.toList = l ∧ s.size = l.length ∧ (l.length : Int) ≤ 9223372036854775807 := by
  obtain ⟨s, h1, h2, h3⟩ := h.d_inv.str_inv
  exact ⟨s, h1, h2, by rw [← h2, Array.length_toList]; rfl, h3⟩

/-- What a world without a store of one's own gives. -/
def Holds (Γ : Cfg) (M : Mem) (w : World) : Prop := Γ.GL M ∧ Γ.GW w ∧ ∀ b o v, M b o = some v → w.cell? ⟨b, o, none⟩ = some v

theorem rel_nil (h : Rel Γ M [] [] w) (hg : Γ.GW w) : Holds Γ M w := ⟨h.gl, hg, h.mem⟩

/-- A function that leaves the world az it is. -/
theorem F_same {f : FuncId} {az : List PV} {v : PV} (hf : fnOk Γ.P f = true)
    (h : ∀ M (w : World) vs, Holds Γ M w → RepL M vs az → ∃ u, Rep M [] [] u v ∧ Calls Γ.P f vs.toArray w fun e w' => e = .returned u ∧ w' = w) : F Γ f az v := by
  refine ⟨hf, fun M ρ w vs hrel hgw hl ha => ?_⟩
  have hρ : ρ = [] := List.eq_nil_of_length_eq_zero (by rw [hrel.len]; rfl)
  subst hρ
  obtain ⟨u, hu, hc⟩ := h M w vs (rel_nil hrel hgw) ⟨hl, ha⟩
  refine hc.mono ?_
  rintro e w' ⟨rfl, rfl⟩
  exact ⟨M, [], [], .ret v, Stp.refl hrel, rfl, hu, rfl, rfl⟩

theorem rel_below (h : Rel Γ M [] [] w) {w' : World} (hb : Below w.heap.size w w') : Stp Γ M [] [] w M [] [] w' := by
  have hlt : ∀ b o v, M b o = some v → b < w.heap.size := fun b o v hm => h.mem_lt hm
  refine ⟨⟨hb.os, hb.tape, hb.output, hb.size, fun b hb' _ => hb.block b hb', Mem.le_refl M, fun b o v h1 h2 => (by rw [h1] at h2; cases h2), fun b s hs => ?_⟩,
    ⟨h.gl, fun b o v hm => ?_, rfl, fun i ty cs hi => by simp at hi, fun i sz xs hi => by simp at hi, fun i j g1 g2 b hij h1 => by simp at h1⟩, fun b hb' => .inl hb', fun i => Tr.refl [] [] i⟩
  · have hlt' : b < w.heap.size := by
      rcases Nat.lt_or_ge b w.heap.size with h1 | h1
      · exact h1
      · simp [World.shape?, Array.getElem?_eq_none h1] at hs
    unfold World.shape? at hs ⊢
    rw [hb.block b hlt']
    exact hs
  · have := h.mem b o v hm
    unfold World.cell? at this ⊢
    rw [hb.block b (hlt b o v hm)]
    exact this
/-- A function that leaves alone what was there. -/
theorem F_below {f : FuncId} {az : List PV} {v : PV} (hf : fnOk Γ.P f = true)
    (h : ∀ M (w : World) vs, Holds Γ M w → (∀ b o v, M b o = some v → b < w.heap.size) → RepL M vs az → ∃ u, Rep M [] [] u v ∧ Calls Γ.P f vs.toArray w fun e w' => e = .returned u ∧ Below w.heap.size w w') : F Γ f az v := by
  refine ⟨hf, fun M ρ w vs hrel hgw hl ha => ?_⟩
  have hρ : ρ = [] := List.eq_nil_of_length_eq_zero (by rw [hrel.len]; rfl)
  subst hρ
  obtain ⟨u, hu, hc⟩ := h M w vs (rel_nil hrel hgw) (fun b o v hm => hrel.mem_lt hm) ⟨hl, ha⟩
  refine hc.mono ?_
  rintro e w' ⟨rfl, hb⟩
  exact ⟨M, [], [], .ret v, rel_below hrel hb, rfl, hu, rfl, rfl⟩

/-- Cells of elements, one behind the other. -/
theorem repd_row {b n : Nat} {vs : List Value} {sz : Nat} {xs : List (List D)} (hn : xs.length = n) (hb : (n : Int) ≤ 9223372036854775807) (hsz : ∀ x ∈ xs, x.length = sz)
    (hcell : ∀ (k : Nat) (v : Value), vs[k]? = some v → M b k = some v) (hr : RepDs M vs xs.flatten) : RepD M (.slice (some ⟨b, 0, none⟩) n n) (.slice xs) := by
  have flat : ∀ (l : List (List D)), (∀ x ∈ l, x.length = sz) → ∀ (i j : Nat) (x : List D) (d : D), l[i]? = some x → x[j]? = some d → l.flatten[i * sz + j]? = some d := by
    intro l
    induction l with
    | nil => intro _ i j x d h; simp at h
    | cons y l ih =>
      intro hs i j x d hi hj
      have hy := hs y (by simp)
      cases i with
      | zero =>
        simp at hi
        subst hi
        rw [List.flatten_cons, Nat.zero_mul, Nat.zero_add, List.getElem?_append_left (List.getElem?_eq_some_iff.1 hj).1]
        exact hj
      | succ i =>
        rw [List.flatten_cons, List.getElem?_append_right (by rw [hy, Nat.succ_mul]; omega), hy, show (i + 1) * sz + j - sz = i * sz + j by rw [Nat.succ_mul]; omega]
        exact ih (fun x hx => hs x (by simp [hx])) i j x d (by simpa using hi) hj
  refine .slice _ n n sz xs (fun i j => (vs[i * sz + j]?).getD Go.undef) hn (Nat.le_refl _) hb hsz ?_ ?_
  · intro i x j d hi hj
    have hf := flat xs hsz i j x d hi hj
    have hlt : i * sz + j < vs.length := by rw [hr.1]; exact (List.getElem?_eq_some_iff.1 hf).1
    refine ⟨b, 0, rfl, ?_⟩
    rw [Nat.zero_add, List.getElem?_eq_getElem hlt]
    exact hcell _ _ (List.getElem?_eq_getElem hlt)
  · intro i x j d hi hj
    have hf := flat xs hsz i j x d hi hj
    have hlt : i * sz + j < vs.length := by rw [hr.1]; exact (List.getElem?_eq_some_iff.1 hf).1
    exact hr.2 _ _ d (by rw [List.getElem?_eq_getElem hlt]; rfl) hf

/-- A function that lays one row and returns it. -/
theorem F_row {f : FuncId} {az : List PV} {xs : List (List D)} {sz : Nat} (hf : fnOk Γ.P f = true) (hsz : ∀ x ∈ xs, x.length = sz) (hb : (xs.length : Int) ≤ 9223372036854775807)
    (h : ∀ M (w : World) vs, Holds Γ M w → RepL M vs az → ∃ (us : List Value) (t : TypeId), RepDs M us xs.flatten ∧
      Calls Γ.P f vs.toArray w fun e w' => e = .returned (.slice (some ⟨w.heap.size, 0, none⟩) xs.length xs.length) ∧ w' = w.alloc (.cells us.toArray t)) : F Γ f az (.d (.slice xs)) := by
  refine ⟨hf, fun M ρ w vs hrel hgw hl ha => ?_⟩
  have hρ : ρ = [] := List.eq_nil_of_length_eq_zero (by rw [hrel.len]; rfl)
  subst hρ
  obtain ⟨us, t, hu, hc⟩ := h M w vs (rel_nil hrel hgw) ⟨hl, ha⟩
  refine hc.mono ?_
  rintro e w' ⟨rfl, rfl⟩
  have hst := stp_row hrel us.toArray t us.length
  refine ⟨_, [], [], .ret _, hst, rfl, .d _ _ ?_, rfl, rfl⟩
  refine repd_row rfl hb hsz (fun k v hk => ?_) (hu.mono hst.ext.mono)
  simp only [Mem.row, if_pos (List.getElem?_eq_some_iff.1 hk).1, if_true]
  simpa using hk
end
end Go.Plane
end
section
set_option linter.unusedVariables false
namespace Go.Plane
open Go

/-- A text cut at each such byte. -/
def splitL (c : UInt8) : List UInt8 → List (List UInt8)
  | [] => [[]]
  | b :: l => if b = c then [] :: splitL c l else match splitL c l with
    | x :: r => (b :: x) :: r
    | [] => [[b]]
theorem splitL_ne (c : UInt8) : ∀ l, splitL c l ≠ []
  | [] => by simp [splitL]
  | b :: l => by
    unfold splitL
    split
    · simp
    · split <;> simp

def splitK (c : UInt8) : Nat → List UInt8 → List (List UInt8)
  | 0, s => [s]
  | k + 1, s => if Lib.index s [c] == -1 then [s] else s.take (Lib.index s [c]).toNat :: splitK c k (s.drop ((Lib.index s [c]).toNat + 1))

theorem index_ge (c : UInt8) : ∀ l, -1 ≤ Lib.index l [c]
  | [] => by simp [Lib.index]
  | b :: l => by
    have := index_ge c l
    unfold Lib.index
    split
    · omega
    · split <;> omega
theorem index_hit (c : UInt8) (l : List UInt8) : Lib.index (c :: l) [c] = 0 := by simp [Lib.index]
theorem index_miss {b c : UInt8} (h : b ≠ c) (l : List UInt8) : Lib.index (b :: l) [c] = if Lib.index l [c] == -1 then -1 else Lib.index l [c] + 1 := by
  have : ([c].isPrefixOf (b :: l)) = false := by simp [List.isPrefixOf, Ne.symm h]
  simp [Lib.index, this]

theorem splitK_eq (c : UInt8) : ∀ (l : List UInt8) (k : Nat), l.count c ≤ k → splitK c k l = splitL c l
  | [], k, _ => by cases k <;> simp [splitK, splitL, Lib.index]
  | b :: l, k, hk => by
    by_cases hb : b = c
    · subst hb
      rw [List.count_cons_self] at hk
      obtain ⟨k, rfl⟩ : ∃ j, k = j + 1 := ⟨k - 1, by omega⟩
      simp only [splitK, index_hit, splitL, if_true]
      rw [if_neg (by decide)]
      simp [splitK_eq b l k (by omega)]
    · have hc : l.count c ≤ k := by rw [List.count_cons_of_ne hb] at hk; exact hk
      have ih := splitK_eq c l k hc
      simp only [splitL, if_neg hb, ← ih]
      cases k with
      | zero => simp [splitK]
      | succ k =>
        simp only [splitK, index_miss hb]
        by_cases h1 : Lib.index l [c] = -1
        · simp [h1]
        · have h2 := index_ge c l
          obtain ⟨i, hi⟩ := Int.eq_ofNat_of_zero_le (show 0 ≤ Lib.index l [c] by omega)
          have h3 : ((i : Int) == -1) = false := by simp
          have h4 : ((i : Int) + 1 == -1) = false := by rw [beq_eq_false_iff_ne]; omega
          simp only [hi, h3, h4, if_false, Bool.false_eq_true]
          simp [show ((i : Int) + 1).toNat = i + 1 by omega]

theorem countFrom_eq (c : UInt8) : ∀ (l : List UInt8) (f : Nat), l.length < f → Lib.countFrom [c] f l = l.count c
  | [], f, h => by
    cases f with
    | zero => rfl
    | succ f => simp [Lib.countFrom, Lib.index]
  | b :: l, f, h => by
    simp only [List.length_cons] at h
    obtain ⟨f, rfl⟩ : ∃ j, f = j + 1 := ⟨f - 1, by omega⟩
    by_cases hb : b = c
    · subst hb
      rw [List.count_cons_self]
      simp only [Lib.countFrom, index_hit]
      rw [if_neg (by decide)]
      have := countFrom_eq b l f (by omega)
      simp [this]
      omega
    · rw [List.count_cons_of_ne hb, ← countFrom_eq c l (f + 1) (by omega)]
      simp only [Lib.countFrom, index_miss hb]
      by_cases h1 : Lib.index l [c] = -1
      · simp [h1]
      · have h2 := index_ge c l
        obtain ⟨i, hi⟩ := Int.eq_ofNat_of_zero_le (show 0 ≤ Lib.index l [c] by omega)
        have h3 : ((i : Int) == -1) = false := by simp
        have h4 : ((i : Int) + 1 == -1) = false := by rw [beq_eq_false_iff_ne]; omega
        simp only [hi, h3, h4, if_false, Bool.false_eq_true]
        simp [show ((i : Int) + 1).toNat = i + 1 by omega]
theorem count_one (c : UInt8) (l : List UInt8) : Lib.count l [c] = l.count c := countFrom_eq c l _ (by omega)

theorem extract_list (s : ByteArray) (a b : Nat) : (s.extract a b).data.toList = (s.data.toList.take b).drop a := by
  rw [ByteArray.data_extract, Array.toList_extract]
  simp [List.extract, List.drop_take]

theorem splitB_list (c : UInt8) : ∀ (k : Nat) (s : ByteArray), (Lib.splitB ⟨#[c]⟩ 0 k s).map (·.data.toList) = splitK c k s.data.toList
  | 0, s => rfl
  | k + 1, s => by
    simp only [Lib.splitB, splitK, Lib.indexB]
    split
    · rfl
    · rw [List.map_cons, splitB_list c k, extract_list, extract_list, show s.size = s.data.toList.length by rw [Array.length_toList]; rfl, List.take_length]
      rfl
theorem splitB_eq (c : UInt8) (s : ByteArray) : (Lib.splitB ⟨#[c]⟩ 0 (Lib.countB s ⟨#[c]⟩) s).map (·.data.toList) = splitL c s.data.toList := by
  rw [splitB_list, splitK_eq]
  exact Nat.le_of_eq (count_one c _).symm
theorem splitL_length (c : UInt8) : ∀ l, (splitL c l).length = l.count c + 1
  | [] => rfl
  | b :: l => by
    have ih := splitL_length c l
    unfold splitL
    split
    · rename_i h; subst h; simp [ih]
    · rename_i h
      rw [List.count_cons_of_ne h, ← ih]
      split
      · rename_i h2; simp [h2]
      · rename_i h2; exact absurd h2 (splitL_ne c l)
end Go.Plane
end
section
set_option linter.unusedVariables false
namespace Go.Plane
open Go

/-! ### Stepping, with what linear arithmetic decides -/
theorem eqo {α : Sort _} {a b : α} (h : a = b) : a = b := h
def Bd (p : Prop) : Prop := p
theorem natle {a b : Nat} (h : a ≤ b) : a ≤ b := h
theorem bdo {p : Prop} (h : p) : Bd p := h
theorem wrap_ok {n : Int} (h0 : -9223372036854775808 ≤ n) (h1 : n ≤ 9223372036854775807) : IntKind.i64.wrap n = n := wrap64_small n h0 h1
theorem wrap8_ok {n : Int} (h0 : 0 ≤ n) (h1 : n ≤ 255) : IntKind.u8.wrap n = n := by
  simp [IntKind.wrap, IntKind.bits, IntKind.signed]
  omega

section
variable {σ : Store} {val : Opd → PV}
theorem evq_add {x y : Opd} {a b : Int} (hx : val x = .d (.int .i64 a)) (hy : val y = .d (.int .i64 b)) (h : Bd (-9223372036854775808 ≤ a + b ∧ a + b ≤ 9223372036854775807)) :
    evq σ val (.bin .add x y) = some (.d (.int .i64 (a + b))) := by
  simp [evq, evBin, hx, hy, wrap_ok h.1 h.2]
theorem evq_sub {x y : Opd} {a b : Int} (hx : val x = .d (.int .i64 a)) (hy : val y = .d (.int .i64 b)) (h : Bd (-9223372036854775808 ≤ a - b ∧ a - b ≤ 9223372036854775807)) :
    evq σ val (.bin .sub x y) = some (.d (.int .i64 (a - b))) := by
  simp [evq, evBin, hx, hy, wrap_ok h.1 h.2]
theorem evq_sub8 {x y : Opd} {a b : Int} (hx : val x = .d (.int .u8 a)) (hy : val y = .d (.int .u8 b)) (h : Bd (0 ≤ a - b ∧ a - b ≤ 255)) :
    evq σ val (.bin .sub x y) = some (.d (.int .u8 (a - b))) := by
  simp [evq, evBin, hx, hy, wrap8_ok h.1 h.2]
theorem evq_mul {x y : Opd} {a b : Int} (hx : val x = .d (.int .i64 a)) (hy : val y = .d (.int .i64 b)) (h : Bd (-9223372036854775808 ≤ a * b ∧ a * b ≤ 9223372036854775807)) :
    evq σ val (.bin .mul x y) = some (.d (.int .i64 (a * b))) := by
  simp [evq, evBin, hx, hy, wrap_ok h.1 h.2]
theorem evq_conv {x : Opd} {a : Int} {k : IntKind} (hx : val x = .d (.int k a)) (h : Bd (-9223372036854775808 ≤ a ∧ a ≤ 9223372036854775807)) :
    evq σ val (.conv .i64 x) = some (.d (.int .i64 a)) := by
  simp [evq, hx, wrap_ok h.1 h.2]
theorem evq_conv8 {x : Opd} {a : Int} {k : IntKind} (hx : val x = .d (.int k a)) (h : Bd (0 ≤ a ∧ a ≤ 255)) :
    evq σ val (.conv .u8 x) = some (.d (.int .u8 a)) := by
  simp [evq, hx, wrap8_ok h.1 h.2]
theorem evq_neg {x : Opd} {a : Int} (hx : val x = .d (.int .i64 a)) (h : Bd (-9223372036854775808 ≤ -a ∧ -a ≤ 9223372036854775807)) :
    evq σ val (.neg x) = some (.d (.int .i64 (-a))) := by
  simp [evq, hx, wrap_ok h.1 h.2]
theorem evq_cat {x y : Opd} {a b : List UInt8} (hx : val x = .d (.str a)) (hy : val y = .d (.str b)) (h : Bd ((a.length : Int) + b.length ≤ 9223372036854775807)) :
    evq σ val (.bin .add x y) = some (.d (.str (a ++ b))) := by
  simp only [evq, evBin, hx, hy, Int.natCast_add]
  rw [if_pos (show (a.length : Int) + b.length ≤ 9223372036854775807 from h)]
theorem evq_sindex {x i : Opd} {s : List UInt8} {k : IntKind} {n : Nat} {b : UInt8} (hx : val x = .d (.str s)) (hi : val i = .d (.int k n)) (hb : s[n]? = some b) :
    evq σ val (.sindex x i) = some (.d (.int .u8 b.toNat)) := by
  simp [evq, hx, hi, hb]
theorem evq_sindexI {x i : Opd} {s : List UInt8} {k : IntKind} {n : Int} {b : UInt8} (hx : val x = .d (.str s)) (hi : val i = .d (.int k n)) (h0 : Bd (0 ≤ n)) (hb : s[n.toNat]? = some b) :
    evq σ val (.sindex x i) = some (.d (.int .u8 b.toNat)) := by
  have h0 : 0 ≤ n := h0
  simp [evq, hx, hi, hb, h0]
theorem evq_slo {x l : Opd} {s : List UInt8} {k : IntKind} {n : Nat} (hx : val x = .d (.str s)) (hl : val l = .d (.int k n)) (h : Bd ((n : Int) ≤ s.length)) :
    evq σ val (.sslice x (some l) none) = some (.d (.str (s.drop n))) := by
  have h : (n : Int) ≤ s.length := h
  simp [evq, hx, hl, optInt, Int.ofNat_le.1 h]
theorem evq_shi {x u : Opd} {s : List UInt8} {k : IntKind} {n : Nat} (hx : val x = .d (.str s)) (hu : val u = .d (.int k n)) (h : Bd ((n : Int) ≤ s.length)) :
    evq σ val (.sslice x none (some u)) = some (.d (.str (s.take n))) := by
  have h : (n : Int) ≤ s.length := h
  simp [evq, hx, hu, optInt, Int.ofNat_le.1 h]
theorem evq_slh {x l u : Opd} {s : List UInt8} {k k' : IntKind} {m n : Nat} (hx : val x = .d (.str s)) (hl : val l = .d (.int k m)) (hu : val u = .d (.int k' n)) (h : Bd ((m : Int) ≤ n ∧ (n : Int) ≤ s.length)) :
    evq σ val (.sslice x (some l) (some u)) = some (.d (.str ((s.take n).drop m))) := by
  have h : (m : Int) ≤ n ∧ (n : Int) ≤ s.length := h
  simp [evq, hx, hl, hu, optInt, Int.ofNat_le.1 h.1, Int.ofNat_le.1 h.2]
theorem evq_sloI {x l : Opd} {s : List UInt8} {k : IntKind} {n : Int} (hx : val x = .d (.str s)) (hl : val l = .d (.int k n)) (h : Bd (0 ≤ n ∧ n ≤ s.length)) :
    evq σ val (.sslice x (some l) none) = some (.d (.str (s.drop n.toNat))) := by
  have h : 0 ≤ n ∧ n ≤ s.length := h
  simp [evq, hx, hl, optInt, h.1, h.2]
theorem evq_shiI {x u : Opd} {s : List UInt8} {k : IntKind} {n : Int} (hx : val x = .d (.str s)) (hu : val u = .d (.int k n)) (h : Bd (0 ≤ n ∧ n ≤ s.length)) :
    evq σ val (.sslice x none (some u)) = some (.d (.str (s.take n.toNat))) := by
  have h : 0 ≤ n ∧ n ≤ s.length := h
  simp [evq, hx, hu, optInt, h.1, h.2]
theorem evq_slhI {x l u : Opd} {s : List UInt8} {k k' : IntKind} {m n : Int} (hx : val x = .d (.str s)) (hl : val l = .d (.int k m)) (hu : val u = .d (.int k' n)) (h : Bd (0 ≤ m ∧ m ≤ n ∧ n ≤ s.length)) :
    evq σ val (.sslice x (some l) (some u)) = some (.d (.str ((s.take n.toNat).drop m.toNat))) := by
  have h : 0 ≤ m ∧ m ≤ n ∧ n ≤ s.length := h
  simp [evq, hx, hl, hu, optInt, h.1, h.2.1, h.2.2]
theorem evq_aindex {x i : Opd} {cs : List D} {k : IntKind} {n len : Nat} {d : D} (hx : val x = .agg cs) (hi : val i = .d (.int k n)) (h : Bd ((n : Int) < (len : Nat))) (hb : cs[n]? = some d) :
    evq σ val (.aindex len 1 false x i) = some (.d d) := by
  have h : (n : Int) < (len : Nat) := h
  simp [evq, hx, hi, Int.ofNat_lt.1 h, hb]
theorem eve_app {i n ty sz : Nat} {str : Bool} {s x : Opd} {xs ys : List (List D)} (hs : val s = .lref i n) (hx : appSrc σ str (val x) = some ys) (hσ : σ[i]? = some (.lst (ty, sz) xs)) (hn : n = xs.length)
    (hb : Bd ((xs.length : Int) + ys.length ≤ 1073741824)) (hsz : ∀ y ∈ ys, y.length = sz) : eve σ val (.append ty sz str s x) = some (.lref i (xs.length + ys.length), σ.set i (.lst (ty, sz) (xs ++ ys))) := by
  have hb : (xs.length : Int) + ys.length ≤ 1073741824 := hb
  simp only [eve, hx, hs, hσ]
  rw [if_pos hsz, if_pos ⟨trivial, hn, by unfold maxList; omega⟩]
theorem eve_app0 {ty sz : Nat} {str : Bool} {s x : Opd} {ys : List (List D)} (hs : val s = .snil) (hx : appSrc σ str (val x) = some ys)
    (hb : Bd ((ys.length : Int) ≤ 1073741824)) (hsz : ∀ y ∈ ys, y.length = sz) : eve σ val (.append ty sz str s x) = some (.lref σ.length ys.length, σ ++ [.lst (ty, sz) ys]) := by
  have hb : (ys.length : Int) ≤ 1073741824 := hb
  simp only [eve, hx, hs]
  rw [if_pos hsz, if_pos (by unfold maxList; omega)]
theorem len1 {r : List D} {sz : Nat} (h : r.length = sz) : ∀ y ∈ [r], y.length = sz := by simpa using h
theorem evq_lslo {x l : Opd} {xs : List (List D)} {k : IntKind} {n sz : Nat} (hx : (val x).elems σ = some xs) (hl : val l = .d (.int k n)) (h : Bd ((n : Int) ≤ xs.length)) (hs : ∀ y ∈ xs, y.length = sz) :
    evq σ val (.lslice sz x (some l) none) = some (.d (.slice (xs.drop n))) := by
  have h : (n : Int) ≤ xs.length := h
  simp [evq, hx, hl, optInt, Int.ofNat_le.1 h]
  exact hs
theorem evq_lshi {x u : Opd} {xs : List (List D)} {k : IntKind} {n sz : Nat} (hx : (val x).elems σ = some xs) (hu : val u = .d (.int k n)) (h : Bd ((n : Int) ≤ xs.length)) (hs : ∀ y ∈ xs, y.length = sz) :
    evq σ val (.lslice sz x none (some u)) = some (.d (.slice (xs.take n))) := by
  have h : (n : Int) ≤ xs.length := h
  simp [evq, hx, hu, optInt, Int.ofNat_le.1 h]
  exact hs
theorem evq_lslh {x l u : Opd} {xs : List (List D)} {k k' : IntKind} {m n sz : Nat} (hx : (val x).elems σ = some xs) (hl : val l = .d (.int k m)) (hu : val u = .d (.int k' n)) (h : Bd ((m : Int) ≤ n ∧ (n : Int) ≤ xs.length)) (hs : ∀ y ∈ xs, y.length = sz) :
    evq σ val (.lslice sz x (some l) (some u)) = some (.d (.slice ((xs.take n).drop m))) := by
  have h : (m : Int) ≤ n ∧ (n : Int) ≤ xs.length := h
  simp [evq, hx, hl, hu, optInt, Int.ofNat_le.1 h.1, Int.ofNat_le.1 h.2]
  exact hs
theorem evq_lsloI {x l : Opd} {xs : List (List D)} {k : IntKind} {n : Int} {sz : Nat} (hx : (val x).elems σ = some xs) (hl : val l = .d (.int k n)) (h : Bd (0 ≤ n ∧ n ≤ xs.length)) (hs : ∀ y ∈ xs, y.length = sz) :
    evq σ val (.lslice sz x (some l) none) = some (.d (.slice (xs.drop n.toNat))) := by
  have h : 0 ≤ n ∧ n ≤ xs.length := h
  simp [evq, hx, hl, optInt, h.1, h.2]
  exact hs
theorem evq_lshiI {x u : Opd} {xs : List (List D)} {k : IntKind} {n : Int} {sz : Nat} (hx : (val x).elems σ = some xs) (hu : val u = .d (.int k n)) (h : Bd (0 ≤ n ∧ n ≤ xs.length)) (hs : ∀ y ∈ xs, y.length = sz) :
    evq σ val (.lslice sz x none (some u)) = some (.d (.slice (xs.take n.toNat))) := by
  have h : 0 ≤ n ∧ n ≤ xs.length := h
  simp [evq, hx, hu, optInt, h.1, h.2]
  exact hs
theorem evq_lslhI {x l u : Opd} {xs : List (List D)} {k k' : IntKind} {m n : Int} {sz : Nat} (hx : (val x).elems σ = some xs) (hl : val l = .d (.int k m)) (hu : val u = .d (.int k' n)) (h : Bd (0 ≤ m ∧ m ≤ n ∧ n ≤ xs.length)) (hs : ∀ y ∈ xs, y.length = sz) :
    evq σ val (.lslice sz x (some l) (some u)) = some (.d (.slice ((xs.take n.toNat).drop m.toNat))) := by
  have h : 0 ≤ m ∧ m ≤ n ∧ n ≤ xs.length := h
  simp [evq, hx, hl, hu, optInt, h.1, h.2.1, h.2.2]
  exact hs
theorem evq_sbox {x i : Opd} {b m : Nat} {k : IntKind} {n : Int} (hx : val x = .sbox b m) (hi : val i = .d (.int k n)) (h : Bd (0 ≤ n ∧ n < m)) : evq σ val (.iaddr 1 x i) = some (.ptr b n.toNat) := by
  have h : 0 ≤ n ∧ n < m := h
  have he : (PV.sbox b m).elems σ = none := rfl
  simp only [evq, hi, hx, he]
  simp [h.1, h.2]
theorem evq_iaddr {x i : Opd} {xs : List (List D)} {k : IntKind} {n sz : Nat} {e : List D} (hx : (val x).elems σ = some xs) (hi : val i = .d (.int k n)) (hb : xs[n]? = some e) (hl : e.length = sz) :
    evq σ val (.iaddr sz x i) = some (.cptr e 0) := by
  simp [evq, hx, hi, hb, hl]
theorem evq_iaddrI {x i : Opd} {xs : List (List D)} {k : IntKind} {n : Int} {sz : Nat} {e : List D} (hx : (val x).elems σ = some xs) (hi : val i = .d (.int k n)) (h0 : Bd (0 ≤ n)) (hb : xs[n.toNat]? = some e) (hl : e.length = sz) :
    evq σ val (.iaddr sz x i) = some (.cptr e 0) := by
  have h0 : 0 ≤ n := h0
  simp [evq, hx, hi, hb, hl, h0]

end

section
variable {Γ : Cfg} {env : Env} {σ : Store} {Q : Ex → Env → Store → Prop} {K : Env → Store → Prop}
theorem wio_gk {io : Ac} {t : Nat} {b : Bool} {od : Option Nat} {p : PV} (hg : io.gd = some (t, b)) (hd : io.dst = od) (hp : ∀ g x, io = .panic g x → p ≠ .tup []) (hx : env.get t = p)
    (h : guardK p b (wio Γ Q ((t, .d (.bool b)) :: env) σ K io.bare) (K (Env.putO ((t, .d (.bool !b)) :: env) od (.tup [])) σ) (K (env.putO od (.tup [])) σ)) : wio Γ Q env σ K io := by
  subst hd
  cases io <;> simp only [Ac.gd] at hg <;> try (cases hg; done)
  all_goals subst hg; simp only [wio, guarded, hx]; exact h
theorem ops_g {io : Ac} {r : List Ac} {t : Nat} {b : Bool} {od : Option Nat} {p : PV} (hg : io.gd = some (t, b)) (hd : io.dst = od) (hx : env.get t = p)
    (h : guardK p b (wops Γ (io.bare :: r) Q ((t, .d (.bool b)) :: env) σ) (wops Γ r Q (Env.putO ((t, .d (.bool !b)) :: env) od (.tup [])) σ) (wops Γ r Q (env.putO od (.tup [])) σ)) : wops Γ (io :: r) Q env σ := by
  subst hd
  cases io <;> simp only [Ac.gd] at hg <;> try (cases hg; done)
  all_goals subst hg; simp only [wops, wio, guarded, hx]; exact h
theorem io_g {io : Ac} {t : Nat} {b : Bool} {od : Option Nat} {p : PV} (hg : io.gd = some (t, b)) (hd : io.dst = od) (hx : env.get t = p)
    (h : guardK p b (wio Γ Q ((t, .d (.bool b)) :: env) σ K io.bare) (K (Env.putO ((t, .d (.bool !b)) :: env) od (.tup [])) σ) (K (env.putO od (.tup [])) σ)) : wio Γ Q env σ K io := by
  subst hd
  cases io <;> simp only [Ac.gd] at hg <;> try (cases hg; done)
  all_goals subst hg; simp only [wio, guarded, hx]; exact h
/-! ### What is to be done next: cheap looks -/
def Ac.kind : Ac → Nat
  | .q none (some _) _ => 1
  | .e none (some _) _ => 2
  | .e none none _ => 3
  | .call none _ _ _ => 4
  | .callv none _ _ _ => 5
  | .q none none _ => 6
  | .panic none _ => 8
  | .own _ _ => 9
  | .ownb _ _ _ => 10
  | _ => 7
def IC.kind : IC → Nat
  | .kp _ _ => 1
  | .cond _ _ _ => 2
  | .loop _ _ => 3
  | _ => 0
def QOp.kind : QOp → Nat
  | .bin .add _ _ => 1
  | .bin .sub _ _ => 2
  | .bin .mul _ _ => 2
  | .conv _ _ => 3
  | .neg _ => 3
  | .sindex _ _ => 4
  | .sslice _ _ _ => 5
  | .iaddr _ _ _ => 6
  | .lslice _ _ _ _ => 7
  | .aindex _ _ _ _ _ => 8
  | _ => 0
def EOp.kind : EOp → Nat
  | .append _ _ _ _ _ => 1
  | _ => 0
theorem ow (k : Nat) {io : Ac} {r : List Ac} (hk : io.kind = k) (h : wops Γ (io :: r) Q env σ) : wops Γ (io :: r) Q env σ := h
theorem iw (k : Nat) {io : Ac} (hk : io.kind = k) (h : wio Γ Q env σ K io) : wio Γ Q env σ K io := h
theorem cw (k : Nat) {c : IC} (hk : c.kind = k) (h : wic Γ c Q env σ) : wic Γ c Q env σ := h
theorem wcm {f : FuncId} {az : List PV} {K : Out → Store → Prop} (h : wcall Γ f az σ K) : wcall Γ f az σ K := h
theorem wom {l : List Ac} (h : wops Γ l Q env σ) : wops Γ l Q env σ := h
theorem wim {c : IC} (h : wic Γ c Q env σ) : wic Γ c Q env σ := h
theorem wdm {t : DT} {L : List (Nat × List Nat)} (h : wdt Γ Q t L env σ) : wdt Γ Q t L env σ := h
theorem wlm {l : List Nat} {c : IC} (h : LP Γ l c Q env σ) : LP Γ l c Q env σ := h
theorem iom {io : Ac} (h : wio Γ Q env σ K io) : wio Γ Q env σ K io := h
theorem oqw (k : Nat) {o : QOp} {d : Nat} {r : List Ac} (hk : o.kind = k) (h : wops Γ (.q none (some d) o :: r) Q env σ) : wops Γ (.q none (some d) o :: r) Q env σ := h
theorem iqw (k : Nat) {o : QOp} {d : Nat} (hk : o.kind = k) (h : wio Γ Q env σ K (.q none (some d) o)) : wio Γ Q env σ K (.q none (some d) o) := h
theorem bmm {i : Nat} {ex : Ex} (h : Ex.inBlock i Q ex env σ) : Ex.inBlock i Q ex env σ := h
theorem fnm {rs : List RV} {n : Nat} {F : Out → Store → Prop} {ex : Ex} (h : fnPost rs n F ex env σ) : fnPost rs n F ex env σ := h
theorem gkm {p : PV} {b : Bool} {A B C : Prop} (h : guardK p b A B C) : guardK p b A B C := h
/-- For each element of a list. -/
theorem LP_for {α β : Type} (xs : List β) {l : List Nat} {c : IC} (E : Nat → α → Env) (S : Nat → α → Store) (I : Nat → α → Prop) (a0 : α) (he : E 0 a0 = env) (hs : S 0 a0 = σ) (h0 : I 0 a0)
    (hstep : ∀ i x a, xs[i]? = some x → i < xs.length → I i a → (∀ b, I (i + 1) b → LP Γ l c Q (E (i + 1) b) (S (i + 1) b)) →
      wic Γ c (Ex.then (fun e s => LP Γ l c Q (e.shr (S i a).length s l) (shrink (S i a).length s)) Q) (E i a) (S i a))
    (hend : ∀ a, I xs.length a → wic Γ c (Ex.then (fun e s => LP Γ l c Q (e.shr (S xs.length a).length s l) (shrink (S xs.length a).length s)) Q) (E xs.length a) (S xs.length a)) : LP Γ l c Q env σ := by
  refine LP_ind (α := Nat × α) (fun a => xs.length - a.1) (fun a => E a.1 a.2) (fun a => S a.1 a.2) (fun a => a.1 ≤ xs.length ∧ I a.1 a.2) (0, a0) he hs ⟨Nat.zero_le _, h0⟩ ?_
  rintro ⟨i, a⟩ ⟨h1, h2⟩ ih
  apply LP_go
  rcases Nat.lt_or_eq_of_le h1 with hlt | heq
  · simp only at hlt
    exact hstep i xs[i] a (List.getElem?_eq_getElem hlt) hlt h2 (fun b hb => ih (i + 1, b) ⟨hlt, hb⟩ (by simp only; omega))
  · simp only at heq
    subst heq
    exact hend a h2
variable {A B C : Prop}
theorem gk_off {b : Bool} (h : C) : guardK (.tup []) b A B C := h
theorem gk_tt (h : A) : guardK (.d (.bool true)) true A B C := ⟨fun _ => h, nofun⟩
theorem gk_ft (h : B) : guardK (.d (.bool false)) true A B C := ⟨nofun, fun _ => h⟩
theorem gk_tf (h : B) : guardK (.d (.bool true)) false A B C := ⟨nofun, fun _ => h⟩
theorem gk_ff (h : A) : guardK (.d (.bool false)) false A B C := ⟨fun _ => h, nofun⟩
theorem gk_nt {x : Bool} (h : guardK (.d (.bool x)) false A B C) : guardK (.d (.bool !x)) true A B C := by
  cases x <;> simpa [guardK] using h
theorem gk_nf {x : Bool} (h : guardK (.d (.bool x)) true A B C) : guardK (.d (.bool !x)) false A B C := by
  cases x <;> simpa [guardK] using h
section
variable {p : Prop} [Decidable p]
theorem gk_pt (hp : Bd p) (h : A) : guardK (.d (.bool (decide p))) true A B C := ⟨fun _ => h, fun hn => absurd (show p from hp) (of_decide_eq_false hn)⟩
theorem gk_qt (hp : Bd ¬p) (h : B) : guardK (.d (.bool (decide p))) true A B C := ⟨fun hn => absurd (of_decide_eq_true hn) hp, fun _ => h⟩
theorem gk_pf (hp : Bd p) (h : B) : guardK (.d (.bool (decide p))) false A B C := ⟨fun hn => absurd (show p from hp) (of_decide_eq_false hn), fun _ => h⟩
theorem gk_qf (hp : Bd ¬p) (h : A) : guardK (.d (.bool (decide p))) false A B C := ⟨fun _ => h, fun hn => absurd (of_decide_eq_true hn) hp⟩
theorem gk_dt (h1 : p → A) (h2 : ¬p → B) : guardK (.d (.bool (decide p))) true A B C := ⟨fun h => h1 (of_decide_eq_true h), fun h => h2 (of_decide_eq_false h)⟩
theorem gk_df (h1 : ¬p → A) (h2 : p → B) : guardK (.d (.bool (decide p))) false A B C := ⟨fun h => h1 (of_decide_eq_false h), fun h => h2 (of_decide_eq_true h)⟩
end
section
variable {a b : Int}
theorem gk_et (hp : Bd (a = b)) (h : A) : guardK (.d (.bool (a == b))) true A B C := ⟨fun _ => h, fun hn => absurd (show a = b from hp) (by simpa using hn)⟩
theorem gk_ut (hp : Bd (a ≠ b)) (h : B) : guardK (.d (.bool (a == b))) true A B C := ⟨fun hn => absurd (by simpa using hn) hp, fun _ => h⟩
theorem gk_ef (hp : Bd (a = b)) (h : B) : guardK (.d (.bool (a == b))) false A B C := ⟨fun hn => absurd (show a = b from hp) (by simpa using hn), fun _ => h⟩
theorem gk_uf (hp : Bd (a ≠ b)) (h : A) : guardK (.d (.bool (a == b))) false A B C := ⟨fun _ => h, fun hn => absurd (by simpa using hn) hp⟩
theorem gk_zt (h1 : a = b → A) (h2 : a ≠ b → B) : guardK (.d (.bool (a == b))) true A B C := ⟨fun h => h1 (by simpa using h), fun h => h2 (by simpa using h)⟩
theorem gk_zf (h1 : a ≠ b → A) (h2 : a = b → B) : guardK (.d (.bool (a == b))) false A B C := ⟨fun h => h1 (by simpa using h), fun h => h2 (by simpa using h)⟩
theorem gk_bne {b' : Bool} (h : guardK (.d (.bool (!(a == b)))) b' A B C) : guardK (.d (.bool (a != b))) b' A B C := h
end
section
variable {a b : List UInt8}
theorem gk_lt (h1 : a = b → A) (h2 : a ≠ b → B) : guardK (.d (.bool (a == b))) true A B C := ⟨fun h => h1 (by simpa using h), fun h => h2 (by simpa using h)⟩
theorem gk_lf (h1 : a ≠ b → A) (h2 : a = b → B) : guardK (.d (.bool (a == b))) false A B C := ⟨fun h => h1 (by simpa using h), fun h => h2 (by simpa using h)⟩
theorem gk_lbne {b' : Bool} (h : guardK (.d (.bool (!(a == b)))) b' A B C) : guardK (.d (.bool (a != b))) b' A B C := h
end
theorem gk_xt {x : Bool} (h1 : x = true → A) (h2 : x = false → B) : guardK (.d (.bool x)) true A B C := ⟨h1, h2⟩
theorem gk_xf {x : Bool} (h1 : x = false → A) (h2 : x = true → B) : guardK (.d (.bool x)) false A B C := ⟨h1, h2⟩
/-- A test is a guard az well. -/
theorem wic_cg {c : Opd} {a b : IC} {p : PV} (hx : c.val env = p) (h : guardK p true (wic Γ a Q env σ) (wic Γ b Q env σ) False) : wic Γ (.cond c a b) Q env σ := by
  subst hx
  simp only [wic, condK]
  revert h
  cases c.val env <;> simp only [guardK] <;> try exact fun h => h
  case d x => cases x <;> simp only [Bool.not_true] <;> exact fun h => h
  case tup vs => cases vs <;> exact fun h => h
end
end Go.Plane
end
section
set_option linter.unusedVariables false
namespace Go.Plane
open Go

/-! ### Steps that look after their own side goals -/
section
variable {Γ : Cfg} {env : Env} {σ : Store} {Q : Ex → Env → Store → Prop} {K : Env → Store → Prop}
theorem oq0 {d : Nat} {o : QOp} {r : List Ac} {p : PV} (h : wops Γ r Q ((d, p) :: env) σ) (hk : o.kind = 0 := by rfl) (hp : evq σ (Opd.val env) o = some p := by ((try simp only [*, evq, evBin, optInt, intsOf, PV.elems, PV.dc1, PV.dcs, dc1L, fillD, splice, evLoad, Option.map_some, Option.map_none, get_cons, val_t, val_k, val_f, Nat.reduceEqDiff, Nat.succ_ne_self, ↓reduceIte, reduceCtorEq, List.length_cons, List.length_nil, List.take_succ_cons, List.take_zero, List.drop_succ_cons, List.drop_zero, List.append_nil, List.nil_append, List.cons_append, List.getElem?_cons_zero, List.getElem?_cons_succ, List.getElem?_nil, Nat.reduceAdd, Nat.reduceLeDiff, Nat.reduceSub, Nat.reduceMul, Nat.zero_add, and_self, and_true, true_and, List.foldl_cons, List.foldl_nil, shaped, D.isK, eqDs, D.eqv, Bool.and_true, Bool.true_and, decide_true, decide_false, beq_self_eq_true, bne_self_eq_false, List.set_cons_zero, List.set_cons_succ, Env.keep, List.map, eve, elemsD, PV.cellsOf, setCellsP, rvs, RV.get, retOf, expR, PV.argOf, PV.exp, PV.ids, PV.ids.idsL, List.all_nil, shrink, List.take_nil, Int.toNat_natCast, Int.toNat_zero, Int.natCast_nonneg, Int.le_refl, Bool.not_true, Bool.not_false, Ac.dst, Ac.gd]) <;> rfl)) : wops Γ (.q none (some d) o :: r) Q env σ := ops_q hp h
theorem iq0 {d : Nat} {o : QOp} {p : PV} (h : K ((d, p) :: env) σ) (hk : o.kind = 0 := by rfl) (hp : evq σ (Opd.val env) o = some p := by ((try simp only [*, evq, evBin, optInt, intsOf, PV.elems, PV.dc1, PV.dcs, dc1L, fillD, splice, evLoad, Option.map_some, Option.map_none, get_cons, val_t, val_k, val_f, Nat.reduceEqDiff, Nat.succ_ne_self, ↓reduceIte, reduceCtorEq, List.length_cons, List.length_nil, List.take_succ_cons, List.take_zero, List.drop_succ_cons, List.drop_zero, List.append_nil, List.nil_append, List.cons_append, List.getElem?_cons_zero, List.getElem?_cons_succ, List.getElem?_nil, Nat.reduceAdd, Nat.reduceLeDiff, Nat.reduceSub, Nat.reduceMul, Nat.zero_add, and_self, and_true, true_and, List.foldl_cons, List.foldl_nil, shaped, D.isK, eqDs, D.eqv, Bool.and_true, Bool.true_and, decide_true, decide_false, beq_self_eq_true, bne_self_eq_false, List.set_cons_zero, List.set_cons_succ, Env.keep, List.map, eve, elemsD, PV.cellsOf, setCellsP, rvs, RV.get, retOf, expR, PV.argOf, PV.exp, PV.ids, PV.ids.idsL, List.all_nil, shrink, List.take_nil, Int.toNat_natCast, Int.toNat_zero, Int.natCast_nonneg, Int.le_refl, Bool.not_true, Bool.not_false, Ac.dst, Ac.gd]) <;> rfl)) : wio Γ Q env σ K (.q none (some d) o) := io_q hp h
theorem oq1 {d : Nat} {o : QOp} {r : List Ac} {p : PV} (h : wops Γ r Q ((d, p) :: env) σ) (hk : o.kind = 1 := by rfl) (hp : evq σ (Opd.val env) o = some p := by (first | ((with_reducible apply evq_add) <;> (first | ((with_reducible refine bdo ?_); omega) | assumption | rfl)) | ((with_reducible apply evq_cat) <;> (first | ((with_reducible refine bdo ?_); omega) | assumption | rfl)) | ((try simp only [*, evq, evBin, optInt, intsOf, PV.elems, PV.dc1, PV.dcs, dc1L, fillD, splice, evLoad, Option.map_some, Option.map_none, get_cons, val_t, val_k, val_f, Nat.reduceEqDiff, Nat.succ_ne_self, ↓reduceIte, reduceCtorEq, List.length_cons, List.length_nil, List.take_succ_cons, List.take_zero, List.drop_succ_cons, List.drop_zero, List.append_nil, List.nil_append, List.cons_append, List.getElem?_cons_zero, List.getElem?_cons_succ, List.getElem?_nil, Nat.reduceAdd, Nat.reduceLeDiff, Nat.reduceSub, Nat.reduceMul, Nat.zero_add, and_self, and_true, true_and, List.foldl_cons, List.foldl_nil, shaped, D.isK, eqDs, D.eqv, Bool.and_true, Bool.true_and, decide_true, decide_false, beq_self_eq_true, bne_self_eq_false, List.set_cons_zero, List.set_cons_succ, Env.keep, List.map, eve, elemsD, PV.cellsOf, setCellsP, rvs, RV.get, retOf, expR, PV.argOf, PV.exp, PV.ids, PV.ids.idsL, List.all_nil, shrink, List.take_nil, Int.toNat_natCast, Int.toNat_zero, Int.natCast_nonneg, Int.le_refl, Bool.not_true, Bool.not_false, Ac.dst, Ac.gd]) <;> rfl))) : wops Γ (.q none (some d) o :: r) Q env σ := ops_q hp h
theorem iq1 {d : Nat} {o : QOp} {p : PV} (h : K ((d, p) :: env) σ) (hk : o.kind = 1 := by rfl) (hp : evq σ (Opd.val env) o = some p := by (first | ((with_reducible apply evq_add) <;> (first | ((with_reducible refine bdo ?_); omega) | assumption | rfl)) | ((with_reducible apply evq_cat) <;> (first | ((with_reducible refine bdo ?_); omega) | assumption | rfl)) | ((try simp only [*, evq, evBin, optInt, intsOf, PV.elems, PV.dc1, PV.dcs, dc1L, fillD, splice, evLoad, Option.map_some, Option.map_none, get_cons, val_t, val_k, val_f, Nat.reduceEqDiff, Nat.succ_ne_self, ↓reduceIte, reduceCtorEq, List.length_cons, List.length_nil, List.take_succ_cons, List.take_zero, List.drop_succ_cons, List.drop_zero, List.append_nil, List.nil_append, List.cons_append, List.getElem?_cons_zero, List.getElem?_cons_succ, List.getElem?_nil, Nat.reduceAdd, Nat.reduceLeDiff, Nat.reduceSub, Nat.reduceMul, Nat.zero_add, and_self, and_true, true_and, List.foldl_cons, List.foldl_nil, shaped, D.isK, eqDs, D.eqv, Bool.and_true, Bool.true_and, decide_true, decide_false, beq_self_eq_true, bne_self_eq_false, List.set_cons_zero, List.set_cons_succ, Env.keep, List.map, eve, elemsD, PV.cellsOf, setCellsP, rvs, RV.get, retOf, expR, PV.argOf, PV.exp, PV.ids, PV.ids.idsL, List.all_nil, shrink, List.take_nil, Int.toNat_natCast, Int.toNat_zero, Int.natCast_nonneg, Int.le_refl, Bool.not_true, Bool.not_false, Ac.dst, Ac.gd]) <;> rfl))) : wio Γ Q env σ K (.q none (some d) o) := io_q hp h
theorem oq2 {d : Nat} {o : QOp} {r : List Ac} {p : PV} (h : wops Γ r Q ((d, p) :: env) σ) (hk : o.kind = 2 := by rfl) (hp : evq σ (Opd.val env) o = some p := by (first | ((with_reducible apply evq_sub) <;> (first | ((with_reducible refine bdo ?_); omega) | assumption | rfl)) | ((with_reducible apply evq_mul) <;> (first | ((with_reducible refine bdo ?_); omega) | assumption | rfl)) | ((with_reducible apply evq_sub8) <;> (first | ((with_reducible refine bdo ?_); omega) | assumption | rfl)) | ((try simp only [*, evq, evBin, optInt, intsOf, PV.elems, PV.dc1, PV.dcs, dc1L, fillD, splice, evLoad, Option.map_some, Option.map_none, get_cons, val_t, val_k, val_f, Nat.reduceEqDiff, Nat.succ_ne_self, ↓reduceIte, reduceCtorEq, List.length_cons, List.length_nil, List.take_succ_cons, List.take_zero, List.drop_succ_cons, List.drop_zero, List.append_nil, List.nil_append, List.cons_append, List.getElem?_cons_zero, List.getElem?_cons_succ, List.getElem?_nil, Nat.reduceAdd, Nat.reduceLeDiff, Nat.reduceSub, Nat.reduceMul, Nat.zero_add, and_self, and_true, true_and, List.foldl_cons, List.foldl_nil, shaped, D.isK, eqDs, D.eqv, Bool.and_true, Bool.true_and, decide_true, decide_false, beq_self_eq_true, bne_self_eq_false, List.set_cons_zero, List.set_cons_succ, Env.keep, List.map, eve, elemsD, PV.cellsOf, setCellsP, rvs, RV.get, retOf, expR, PV.argOf, PV.exp, PV.ids, PV.ids.idsL, List.all_nil, shrink, List.take_nil, Int.toNat_natCast, Int.toNat_zero, Int.natCast_nonneg, Int.le_refl, Bool.not_true, Bool.not_false, Ac.dst, Ac.gd]) <;> rfl))) : wops Γ (.q none (some d) o :: r) Q env σ := ops_q hp h
theorem iq2 {d : Nat} {o : QOp} {p : PV} (h : K ((d, p) :: env) σ) (hk : o.kind = 2 := by rfl) (hp : evq σ (Opd.val env) o = some p := by (first | ((with_reducible apply evq_sub) <;> (first | ((with_reducible refine bdo ?_); omega) | assumption | rfl)) | ((with_reducible apply evq_mul) <;> (first | ((with_reducible refine bdo ?_); omega) | assumption | rfl)) | ((with_reducible apply evq_sub8) <;> (first | ((with_reducible refine bdo ?_); omega) | assumption | rfl)) | ((try simp only [*, evq, evBin, optInt, intsOf, PV.elems, PV.dc1, PV.dcs, dc1L, fillD, splice, evLoad, Option.map_some, Option.map_none, get_cons, val_t, val_k, val_f, Nat.reduceEqDiff, Nat.succ_ne_self, ↓reduceIte, reduceCtorEq, List.length_cons, List.length_nil, List.take_succ_cons, List.take_zero, List.drop_succ_cons, List.drop_zero, List.append_nil, List.nil_append, List.cons_append, List.getElem?_cons_zero, List.getElem?_cons_succ, List.getElem?_nil, Nat.reduceAdd, Nat.reduceLeDiff, Nat.reduceSub, Nat.reduceMul, Nat.zero_add, and_self, and_true, true_and, List.foldl_cons, List.foldl_nil, shaped, D.isK, eqDs, D.eqv, Bool.and_true, Bool.true_and, decide_true, decide_false, beq_self_eq_true, bne_self_eq_false, List.set_cons_zero, List.set_cons_succ, Env.keep, List.map, eve, elemsD, PV.cellsOf, setCellsP, rvs, RV.get, retOf, expR, PV.argOf, PV.exp, PV.ids, PV.ids.idsL, List.all_nil, shrink, List.take_nil, Int.toNat_natCast, Int.toNat_zero, Int.natCast_nonneg, Int.le_refl, Bool.not_true, Bool.not_false, Ac.dst, Ac.gd]) <;> rfl))) : wio Γ Q env σ K (.q none (some d) o) := io_q hp h
theorem oq3 {d : Nat} {o : QOp} {r : List Ac} {p : PV} (h : wops Γ r Q ((d, p) :: env) σ) (hk : o.kind = 3 := by rfl) (hp : evq σ (Opd.val env) o = some p := by (first | ((with_reducible apply evq_conv) <;> (first | ((with_reducible refine bdo ?_); omega) | assumption | rfl)) | ((with_reducible apply evq_conv8) <;> (first | ((with_reducible refine bdo ?_); omega) | assumption | rfl)) | ((with_reducible apply evq_neg) <;> (first | ((with_reducible refine bdo ?_); omega) | assumption | rfl)) | ((try simp only [*, evq, evBin, optInt, intsOf, PV.elems, PV.dc1, PV.dcs, dc1L, fillD, splice, evLoad, Option.map_some, Option.map_none, get_cons, val_t, val_k, val_f, Nat.reduceEqDiff, Nat.succ_ne_self, ↓reduceIte, reduceCtorEq, List.length_cons, List.length_nil, List.take_succ_cons, List.take_zero, List.drop_succ_cons, List.drop_zero, List.append_nil, List.nil_append, List.cons_append, List.getElem?_cons_zero, List.getElem?_cons_succ, List.getElem?_nil, Nat.reduceAdd, Nat.reduceLeDiff, Nat.reduceSub, Nat.reduceMul, Nat.zero_add, and_self, and_true, true_and, List.foldl_cons, List.foldl_nil, shaped, D.isK, eqDs, D.eqv, Bool.and_true, Bool.true_and, decide_true, decide_false, beq_self_eq_true, bne_self_eq_false, List.set_cons_zero, List.set_cons_succ, Env.keep, List.map, eve, elemsD, PV.cellsOf, setCellsP, rvs, RV.get, retOf, expR, PV.argOf, PV.exp, PV.ids, PV.ids.idsL, List.all_nil, shrink, List.take_nil, Int.toNat_natCast, Int.toNat_zero, Int.natCast_nonneg, Int.le_refl, Bool.not_true, Bool.not_false, Ac.dst, Ac.gd]) <;> rfl))) : wops Γ (.q none (some d) o :: r) Q env σ := ops_q hp h
theorem iq3 {d : Nat} {o : QOp} {p : PV} (h : K ((d, p) :: env) σ) (hk : o.kind = 3 := by rfl) (hp : evq σ (Opd.val env) o = some p := by (first | ((with_reducible apply evq_conv) <;> (first | ((with_reducible refine bdo ?_); omega) | assumption | rfl)) | ((with_reducible apply evq_conv8) <;> (first | ((with_reducible refine bdo ?_); omega) | assumption | rfl)) | ((with_reducible apply evq_neg) <;> (first | ((with_reducible refine bdo ?_); omega) | assumption | rfl)) | ((try simp only [*, evq, evBin, optInt, intsOf, PV.elems, PV.dc1, PV.dcs, dc1L, fillD, splice, evLoad, Option.map_some, Option.map_none, get_cons, val_t, val_k, val_f, Nat.reduceEqDiff, Nat.succ_ne_self, ↓reduceIte, reduceCtorEq, List.length_cons, List.length_nil, List.take_succ_cons, List.take_zero, List.drop_succ_cons, List.drop_zero, List.append_nil, List.nil_append, List.cons_append, List.getElem?_cons_zero, List.getElem?_cons_succ, List.getElem?_nil, Nat.reduceAdd, Nat.reduceLeDiff, Nat.reduceSub, Nat.reduceMul, Nat.zero_add, and_self, and_true, true_and, List.foldl_cons, List.foldl_nil, shaped, D.isK, eqDs, D.eqv, Bool.and_true, Bool.true_and, decide_true, decide_false, beq_self_eq_true, bne_self_eq_false, List.set_cons_zero, List.set_cons_succ, Env.keep, List.map, eve, elemsD, PV.cellsOf, setCellsP, rvs, RV.get, retOf, expR, PV.argOf, PV.exp, PV.ids, PV.ids.idsL, List.all_nil, shrink, List.take_nil, Int.toNat_natCast, Int.toNat_zero, Int.natCast_nonneg, Int.le_refl, Bool.not_true, Bool.not_false, Ac.dst, Ac.gd]) <;> rfl))) : wio Γ Q env σ K (.q none (some d) o) := io_q hp h
theorem oq4 {d : Nat} {o : QOp} {r : List Ac} {p : PV} (h : wops Γ r Q ((d, p) :: env) σ) (hk : o.kind = 4 := by rfl) (hp : evq σ (Opd.val env) o = some p := by (first | ((with_reducible apply evq_sindex) <;> (first | ((with_reducible refine bdo ?_); omega) | assumption | rfl)) | ((with_reducible apply evq_sindexI) <;> (first | ((with_reducible refine bdo ?_); omega) | assumption | rfl)) | ((try simp only [*, evq, evBin, optInt, intsOf, PV.elems, PV.dc1, PV.dcs, dc1L, fillD, splice, evLoad, Option.map_some, Option.map_none, get_cons, val_t, val_k, val_f, Nat.reduceEqDiff, Nat.succ_ne_self, ↓reduceIte, reduceCtorEq, List.length_cons, List.length_nil, List.take_succ_cons, List.take_zero, List.drop_succ_cons, List.drop_zero, List.append_nil, List.nil_append, List.cons_append, List.getElem?_cons_zero, List.getElem?_cons_succ, List.getElem?_nil, Nat.reduceAdd, Nat.reduceLeDiff, Nat.reduceSub, Nat.reduceMul, Nat.zero_add, and_self, and_true, true_and, List.foldl_cons, List.foldl_nil, shaped, D.isK, eqDs, D.eqv, Bool.and_true, Bool.true_and, decide_true, decide_false, beq_self_eq_true, bne_self_eq_false, List.set_cons_zero, List.set_cons_succ, Env.keep, List.map, eve, elemsD, PV.cellsOf, setCellsP, rvs, RV.get, retOf, expR, PV.argOf, PV.exp, PV.ids, PV.ids.idsL, List.all_nil, shrink, List.take_nil, Int.toNat_natCast, Int.toNat_zero, Int.natCast_nonneg, Int.le_refl, Bool.not_true, Bool.not_false, Ac.dst, Ac.gd]) <;> rfl))) : wops Γ (.q none (some d) o :: r) Q env σ := ops_q hp h
theorem iq4 {d : Nat} {o : QOp} {p : PV} (h : K ((d, p) :: env) σ) (hk : o.kind = 4 := by rfl) (hp : evq σ (Opd.val env) o = some p := by (first | ((with_reducible apply evq_sindex) <;> (first | ((with_reducible refine bdo ?_); omega) | assumption | rfl)) | ((with_reducible apply evq_sindexI) <;> (first | ((with_reducible refine bdo ?_); omega) | assumption | rfl)) | ((try simp only [*, evq, evBin, optInt, intsOf, PV.elems, PV.dc1, PV.dcs, dc1L, fillD, splice, evLoad, Option.map_some, Option.map_none, get_cons, val_t, val_k, val_f, Nat.reduceEqDiff, Nat.succ_ne_self, ↓reduceIte, reduceCtorEq, List.length_cons, List.length_nil, List.take_succ_cons, List.take_zero, List.drop_succ_cons, List.drop_zero, List.append_nil, List.nil_append, List.cons_append, List.getElem?_cons_zero, List.getElem?_cons_succ, List.getElem?_nil, Nat.reduceAdd, Nat.reduceLeDiff, Nat.reduceSub, Nat.reduceMul, Nat.zero_add, and_self, and_true, true_and, List.foldl_cons, List.foldl_nil, shaped, D.isK, eqDs, D.eqv, Bool.and_true, Bool.true_and, decide_true, decide_false, beq_self_eq_true, bne_self_eq_false, List.set_cons_zero, List.set_cons_succ, Env.keep, List.map, eve, elemsD, PV.cellsOf, setCellsP, rvs, RV.get, retOf, expR, PV.argOf, PV.exp, PV.ids, PV.ids.idsL, List.all_nil, shrink, List.take_nil, Int.toNat_natCast, Int.toNat_zero, Int.natCast_nonneg, Int.le_refl, Bool.not_true, Bool.not_false, Ac.dst, Ac.gd]) <;> rfl))) : wio Γ Q env σ K (.q none (some d) o) := io_q hp h
theorem oq5 {d : Nat} {o : QOp} {r : List Ac} {p : PV} (h : wops Γ r Q ((d, p) :: env) σ) (hk : o.kind = 5 := by rfl) (hp : evq σ (Opd.val env) o = some p := by (first | ((with_reducible apply evq_slo) <;> (first | ((with_reducible refine bdo ?_); omega) | assumption | rfl)) | ((with_reducible apply evq_shi) <;> (first | ((with_reducible refine bdo ?_); omega) | assumption | rfl)) | ((with_reducible apply evq_slh) <;> (first | ((with_reducible refine bdo ?_); omega) | assumption | rfl)) | ((with_reducible apply evq_sloI) <;> (first | ((with_reducible refine bdo ?_); omega) | assumption | rfl)) | ((with_reducible apply evq_shiI) <;> (first | ((with_reducible refine bdo ?_); omega) | assumption | rfl)) | ((with_reducible apply evq_slhI) <;> (first | ((with_reducible refine bdo ?_); omega) | assumption | rfl)) | ((try simp only [*, evq, evBin, optInt, intsOf, PV.elems, PV.dc1, PV.dcs, dc1L, fillD, splice, evLoad, Option.map_some, Option.map_none, get_cons, val_t, val_k, val_f, Nat.reduceEqDiff, Nat.succ_ne_self, ↓reduceIte, reduceCtorEq, List.length_cons, List.length_nil, List.take_succ_cons, List.take_zero, List.drop_succ_cons, List.drop_zero, List.append_nil, List.nil_append, List.cons_append, List.getElem?_cons_zero, List.getElem?_cons_succ, List.getElem?_nil, Nat.reduceAdd, Nat.reduceLeDiff, Nat.reduceSub, Nat.reduceMul, Nat.zero_add, and_self, and_true, true_and, List.foldl_cons, List.foldl_nil, shaped, D.isK, eqDs, D.eqv, Bool.and_true, Bool.true_and, decide_true, decide_false, beq_self_eq_true, bne_self_eq_false, List.set_cons_zero, List.set_cons_succ, Env.keep, List.map, eve, elemsD, PV.cellsOf, setCellsP, rvs, RV.get, retOf, expR, PV.argOf, PV.exp, PV.ids, PV.ids.idsL, List.all_nil, shrink, List.take_nil, Int.toNat_natCast, Int.toNat_zero, Int.natCast_nonneg, Int.le_refl, Bool.not_true, Bool.not_false, Ac.dst, Ac.gd]) <;> rfl))) : wops Γ (.q none (some d) o :: r) Q env σ := ops_q hp h
theorem iq5 {d : Nat} {o : QOp} {p : PV} (h : K ((d, p) :: env) σ) (hk : o.kind = 5 := by rfl) (hp : evq σ (Opd.val env) o = some p := by (first | ((with_reducible apply evq_slo) <;> (first | ((with_reducible refine bdo ?_); omega) | assumption | rfl)) | ((with_reducible apply evq_shi) <;> (first | ((with_reducible refine bdo ?_); omega) | assumption | rfl)) | ((with_reducible apply evq_slh) <;> (first | ((with_reducible refine bdo ?_); omega) | assumption | rfl)) | ((with_reducible apply evq_sloI) <;> (first | ((with_reducible refine bdo ?_); omega) | assumption | rfl)) | ((with_reducible apply evq_shiI) <;> (first | ((with_reducible refine bdo ?_); omega) | assumption | rfl)) | ((with_reducible apply evq_slhI) <;> (first | ((with_reducible refine bdo ?_); omega) | assumption | rfl)) | ((try simp only [*, evq, evBin, optInt, intsOf, PV.elems, PV.dc1, PV.dcs, dc1L, fillD, splice, evLoad, Option.map_some, Option.map_none, get_cons, val_t, val_k, val_f, Nat.reduceEqDiff, Nat.succ_ne_self, ↓reduceIte, reduceCtorEq, List.length_cons, List.length_nil, List.take_succ_cons, List.take_zero, List.drop_succ_cons, List.drop_zero, List.append_nil, List.nil_append, List.cons_append, List.getElem?_cons_zero, List.getElem?_cons_succ, List.getElem?_nil, Nat.reduceAdd, Nat.reduceLeDiff, Nat.reduceSub, Nat.reduceMul, Nat.zero_add, and_self, and_true, true_and, List.foldl_cons, List.foldl_nil, shaped, D.isK, eqDs, D.eqv, Bool.and_true, Bool.true_and, decide_true, decide_false, beq_self_eq_true, bne_self_eq_false, List.set_cons_zero, List.set_cons_succ, Env.keep, List.map, eve, elemsD, PV.cellsOf, setCellsP, rvs, RV.get, retOf, expR, PV.argOf, PV.exp, PV.ids, PV.ids.idsL, List.all_nil, shrink, List.take_nil, Int.toNat_natCast, Int.toNat_zero, Int.natCast_nonneg, Int.le_refl, Bool.not_true, Bool.not_false, Ac.dst, Ac.gd]) <;> rfl))) : wio Γ Q env σ K (.q none (some d) o) := io_q hp h
theorem oq6 {d : Nat} {o : QOp} {r : List Ac} {p : PV} (h : wops Γ r Q ((d, p) :: env) σ) (hk : o.kind = 6 := by rfl) (hp : evq σ (Opd.val env) o = some p := by (first | ((with_reducible apply evq_iaddr) <;> (first | ((with_reducible refine bdo ?_); omega) | assumption | rfl)) | ((with_reducible apply evq_iaddrI) <;> (first | ((with_reducible refine bdo ?_); omega) | assumption | rfl)) | ((with_reducible apply evq_sbox) <;> (first | ((with_reducible refine bdo ?_); omega) | assumption | rfl)) | ((try simp only [*, evq, evBin, optInt, intsOf, PV.elems, PV.dc1, PV.dcs, dc1L, fillD, splice, evLoad, Option.map_some, Option.map_none, get_cons, val_t, val_k, val_f, Nat.reduceEqDiff, Nat.succ_ne_self, ↓reduceIte, reduceCtorEq, List.length_cons, List.length_nil, List.take_succ_cons, List.take_zero, List.drop_succ_cons, List.drop_zero, List.append_nil, List.nil_append, List.cons_append, List.getElem?_cons_zero, List.getElem?_cons_succ, List.getElem?_nil, Nat.reduceAdd, Nat.reduceLeDiff, Nat.reduceSub, Nat.reduceMul, Nat.zero_add, and_self, and_true, true_and, List.foldl_cons, List.foldl_nil, shaped, D.isK, eqDs, D.eqv, Bool.and_true, Bool.true_and, decide_true, decide_false, beq_self_eq_true, bne_self_eq_false, List.set_cons_zero, List.set_cons_succ, Env.keep, List.map, eve, elemsD, PV.cellsOf, setCellsP, rvs, RV.get, retOf, expR, PV.argOf, PV.exp, PV.ids, PV.ids.idsL, List.all_nil, shrink, List.take_nil, Int.toNat_natCast, Int.toNat_zero, Int.natCast_nonneg, Int.le_refl, Bool.not_true, Bool.not_false, Ac.dst, Ac.gd]) <;> rfl))) : wops Γ (.q none (some d) o :: r) Q env σ := ops_q hp h
theorem iq6 {d : Nat} {o : QOp} {p : PV} (h : K ((d, p) :: env) σ) (hk : o.kind = 6 := by rfl) (hp : evq σ (Opd.val env) o = some p := by (first | ((with_reducible apply evq_iaddr) <;> (first | ((with_reducible refine bdo ?_); omega) | assumption | rfl)) | ((with_reducible apply evq_iaddrI) <;> (first | ((with_reducible refine bdo ?_); omega) | assumption | rfl)) | ((with_reducible apply evq_sbox) <;> (first | ((with_reducible refine bdo ?_); omega) | assumption | rfl)) | ((try simp only [*, evq, evBin, optInt, intsOf, PV.elems, PV.dc1, PV.dcs, dc1L, fillD, splice, evLoad, Option.map_some, Option.map_none, get_cons, val_t, val_k, val_f, Nat.reduceEqDiff, Nat.succ_ne_self, ↓reduceIte, reduceCtorEq, List.length_cons, List.length_nil, List.take_succ_cons, List.take_zero, List.drop_succ_cons, List.drop_zero, List.append_nil, List.nil_append, List.cons_append, List.getElem?_cons_zero, List.getElem?_cons_succ, List.getElem?_nil, Nat.reduceAdd, Nat.reduceLeDiff, Nat.reduceSub, Nat.reduceMul, Nat.zero_add, and_self, and_true, true_and, List.foldl_cons, List.foldl_nil, shaped, D.isK, eqDs, D.eqv, Bool.and_true, Bool.true_and, decide_true, decide_false, beq_self_eq_true, bne_self_eq_false, List.set_cons_zero, List.set_cons_succ, Env.keep, List.map, eve, elemsD, PV.cellsOf, setCellsP, rvs, RV.get, retOf, expR, PV.argOf, PV.exp, PV.ids, PV.ids.idsL, List.all_nil, shrink, List.take_nil, Int.toNat_natCast, Int.toNat_zero, Int.natCast_nonneg, Int.le_refl, Bool.not_true, Bool.not_false, Ac.dst, Ac.gd]) <;> rfl))) : wio Γ Q env σ K (.q none (some d) o) := io_q hp h
theorem oq7 {d : Nat} {o : QOp} {r : List Ac} {p : PV} (h : wops Γ r Q ((d, p) :: env) σ) (hk : o.kind = 7 := by rfl) (hp : evq σ (Opd.val env) o = some p := by (first | ((with_reducible apply evq_lslo) <;> (first | ((with_reducible refine bdo ?_); omega) | assumption | rfl)) | ((with_reducible apply evq_lshi) <;> (first | ((with_reducible refine bdo ?_); omega) | assumption | rfl)) | ((with_reducible apply evq_lslh) <;> (first | ((with_reducible refine bdo ?_); omega) | assumption | rfl)) | ((with_reducible apply evq_lsloI) <;> (first | ((with_reducible refine bdo ?_); omega) | assumption | rfl)) | ((with_reducible apply evq_lshiI) <;> (first | ((with_reducible refine bdo ?_); omega) | assumption | rfl)) | ((with_reducible apply evq_lslhI) <;> (first | ((with_reducible refine bdo ?_); omega) | assumption | rfl)) | ((try simp only [*, evq, evBin, optInt, intsOf, PV.elems, PV.dc1, PV.dcs, dc1L, fillD, splice, evLoad, Option.map_some, Option.map_none, get_cons, val_t, val_k, val_f, Nat.reduceEqDiff, Nat.succ_ne_self, ↓reduceIte, reduceCtorEq, List.length_cons, List.length_nil, List.take_succ_cons, List.take_zero, List.drop_succ_cons, List.drop_zero, List.append_nil, List.nil_append, List.cons_append, List.getElem?_cons_zero, List.getElem?_cons_succ, List.getElem?_nil, Nat.reduceAdd, Nat.reduceLeDiff, Nat.reduceSub, Nat.reduceMul, Nat.zero_add, and_self, and_true, true_and, List.foldl_cons, List.foldl_nil, shaped, D.isK, eqDs, D.eqv, Bool.and_true, Bool.true_and, decide_true, decide_false, beq_self_eq_true, bne_self_eq_false, List.set_cons_zero, List.set_cons_succ, Env.keep, List.map, eve, elemsD, PV.cellsOf, setCellsP, rvs, RV.get, retOf, expR, PV.argOf, PV.exp, PV.ids, PV.ids.idsL, List.all_nil, shrink, List.take_nil, Int.toNat_natCast, Int.toNat_zero, Int.natCast_nonneg, Int.le_refl, Bool.not_true, Bool.not_false, Ac.dst, Ac.gd]) <;> rfl))) : wops Γ (.q none (some d) o :: r) Q env σ := ops_q hp h
theorem oq8 {d : Nat} {o : QOp} {r : List Ac} {p : PV} (h : wops Γ r Q ((d, p) :: env) σ) (hk : o.kind = 8 := by rfl) (hp : evq σ (Opd.val env) o = some p := by (first | ((with_reducible apply evq_aindex) <;> (first | ((with_reducible refine bdo ?_); omega) | assumption | rfl)) | ((try simp only [*, evq, evBin, optInt, intsOf, PV.elems, PV.dc1, PV.dcs, dc1L, fillD, splice, evLoad, Option.map_some, Option.map_none, get_cons, val_t, val_k, val_f, Nat.reduceEqDiff, Nat.succ_ne_self, ↓reduceIte, reduceCtorEq, List.length_cons, List.length_nil, List.take_succ_cons, List.take_zero, List.drop_succ_cons, List.drop_zero, List.append_nil, List.nil_append, List.cons_append, List.getElem?_cons_zero, List.getElem?_cons_succ, List.getElem?_nil, Nat.reduceAdd, Nat.reduceLeDiff, Nat.reduceSub, Nat.reduceMul, Nat.zero_add, and_self, and_true, true_and, List.foldl_cons, List.foldl_nil, shaped, D.isK, eqDs, D.eqv, Bool.and_true, Bool.true_and, decide_true, decide_false, beq_self_eq_true, bne_self_eq_false, List.set_cons_zero, List.set_cons_succ, Env.keep, List.map, eve, elemsD, PV.cellsOf, setCellsP, rvs, RV.get, retOf, expR, PV.argOf, PV.exp, PV.ids, PV.ids.idsL, List.all_nil, shrink, List.take_nil, Int.toNat_natCast, Int.toNat_zero, Int.natCast_nonneg, Int.le_refl, Bool.not_true, Bool.not_false, Ac.dst, Ac.gd]) <;> rfl))) : wops Γ (.q none (some d) o :: r) Q env σ := ops_q hp h
theorem iq7 {d : Nat} {o : QOp} {p : PV} (h : K ((d, p) :: env) σ) (hk : o.kind = 7 := by rfl) (hp : evq σ (Opd.val env) o = some p := by (first | ((with_reducible apply evq_lslo) <;> (first | ((with_reducible refine bdo ?_); omega) | assumption | rfl)) | ((with_reducible apply evq_lshi) <;> (first | ((with_reducible refine bdo ?_); omega) | assumption | rfl)) | ((with_reducible apply evq_lslh) <;> (first | ((with_reducible refine bdo ?_); omega) | assumption | rfl)) | ((with_reducible apply evq_lsloI) <;> (first | ((with_reducible refine bdo ?_); omega) | assumption | rfl)) | ((with_reducible apply evq_lshiI) <;> (first | ((with_reducible refine bdo ?_); omega) | assumption | rfl)) | ((with_reducible apply evq_lslhI) <;> (first | ((with_reducible refine bdo ?_); omega) | assumption | rfl)) | ((try simp only [*, evq, evBin, optInt, intsOf, PV.elems, PV.dc1, PV.dcs, dc1L, fillD, splice, evLoad, Option.map_some, Option.map_none, get_cons, val_t, val_k, val_f, Nat.reduceEqDiff, Nat.succ_ne_self, ↓reduceIte, reduceCtorEq, List.length_cons, List.length_nil, List.take_succ_cons, List.take_zero, List.drop_succ_cons, List.drop_zero, List.append_nil, List.nil_append, List.cons_append, List.getElem?_cons_zero, List.getElem?_cons_succ, List.getElem?_nil, Nat.reduceAdd, Nat.reduceLeDiff, Nat.reduceSub, Nat.reduceMul, Nat.zero_add, and_self, and_true, true_and, List.foldl_cons, List.foldl_nil, shaped, D.isK, eqDs, D.eqv, Bool.and_true, Bool.true_and, decide_true, decide_false, beq_self_eq_true, bne_self_eq_false, List.set_cons_zero, List.set_cons_succ, Env.keep, List.map, eve, elemsD, PV.cellsOf, setCellsP, rvs, RV.get, retOf, expR, PV.argOf, PV.exp, PV.ids, PV.ids.idsL, List.all_nil, shrink, List.take_nil, Int.toNat_natCast, Int.toNat_zero, Int.natCast_nonneg, Int.le_refl, Bool.not_true, Bool.not_false, Ac.dst, Ac.gd]) <;> rfl))) : wio Γ Q env σ K (.q none (some d) o) := io_q hp h
theorem iq8 {d : Nat} {o : QOp} {p : PV} (h : K ((d, p) :: env) σ) (hk : o.kind = 8 := by rfl) (hp : evq σ (Opd.val env) o = some p := by (first | ((with_reducible apply evq_aindex) <;> (first | ((with_reducible refine bdo ?_); omega) | assumption | rfl)) | ((try simp only [*, evq, evBin, optInt, intsOf, PV.elems, PV.dc1, PV.dcs, dc1L, fillD, splice, evLoad, Option.map_some, Option.map_none, get_cons, val_t, val_k, val_f, Nat.reduceEqDiff, Nat.succ_ne_self, ↓reduceIte, reduceCtorEq, List.length_cons, List.length_nil, List.take_succ_cons, List.take_zero, List.drop_succ_cons, List.drop_zero, List.append_nil, List.nil_append, List.cons_append, List.getElem?_cons_zero, List.getElem?_cons_succ, List.getElem?_nil, Nat.reduceAdd, Nat.reduceLeDiff, Nat.reduceSub, Nat.reduceMul, Nat.zero_add, and_self, and_true, true_and, List.foldl_cons, List.foldl_nil, shaped, D.isK, eqDs, D.eqv, Bool.and_true, Bool.true_and, decide_true, decide_false, beq_self_eq_true, bne_self_eq_false, List.set_cons_zero, List.set_cons_succ, Env.keep, List.map, eve, elemsD, PV.cellsOf, setCellsP, rvs, RV.get, retOf, expR, PV.argOf, PV.exp, PV.ids, PV.ids.idsL, List.all_nil, shrink, List.take_nil, Int.toNat_natCast, Int.toNat_zero, Int.natCast_nonneg, Int.le_refl, Bool.not_true, Bool.not_false, Ac.dst, Ac.gd]) <;> rfl))) : wio Γ Q env σ K (.q none (some d) o) := io_q hp h
theorem oa {d : Nat} {o : EOp} {r : List Ac} {p p0 : PV} {σ' σ0 : Store} (h : wops Γ r Q ((d, p) :: env) σ') (hk : o.kind = 1 := by rfl) (hp : eve σ (Opd.val env) o = some (p0, σ0) := by (first | ((with_reducible apply eve_app) <;> (first | ((with_reducible refine bdo ?_); (first | omega | (simp only [List.length_cons, List.length_nil, List.length_map]; omega))) | assumption | rfl | (refine len1 ?_; rfl) | ((try simp only [*, appSrc, evq, evBin, optInt, intsOf, PV.elems, PV.dc1, PV.dcs, dc1L, fillD, splice, evLoad, Option.map_some, Option.map_none, get_cons, val_t, val_k, val_f, Nat.reduceEqDiff, Nat.succ_ne_self, ↓reduceIte, reduceCtorEq, List.length_cons, List.length_nil, List.take_succ_cons, List.take_zero, List.drop_succ_cons, List.drop_zero, List.append_nil, List.nil_append, List.cons_append, List.getElem?_cons_zero, List.getElem?_cons_succ, List.getElem?_nil, Nat.reduceAdd, Nat.reduceLeDiff, Nat.reduceSub, Nat.reduceMul, Nat.zero_add, and_self, and_true, true_and, List.foldl_cons, List.foldl_nil, shaped, D.isK, eqDs, D.eqv, Bool.and_true, Bool.true_and, decide_true, decide_false, beq_self_eq_true, bne_self_eq_false, List.set_cons_zero, List.set_cons_succ, Env.keep, List.map, eve, elemsD, PV.cellsOf, setCellsP, rvs, RV.get, retOf, expR, PV.argOf, PV.exp, PV.ids, PV.ids.idsL, List.all_nil, shrink, List.take_nil, Int.toNat_natCast, Int.toNat_zero, Int.natCast_nonneg, Int.le_refl, Bool.not_true, Bool.not_false, Ac.dst, Ac.gd]) <;> rfl))) | ((with_reducible apply eve_app0) <;> (first | ((with_reducible refine bdo ?_); (first | omega | (simp only [List.length_cons, List.length_nil, List.length_map]; omega))) | assumption | rfl | (refine len1 ?_; rfl) | ((try simp only [*, appSrc, evq, evBin, optInt, intsOf, PV.elems, PV.dc1, PV.dcs, dc1L, fillD, splice, evLoad, Option.map_some, Option.map_none, get_cons, val_t, val_k, val_f, Nat.reduceEqDiff, Nat.succ_ne_self, ↓reduceIte, reduceCtorEq, List.length_cons, List.length_nil, List.take_succ_cons, List.take_zero, List.drop_succ_cons, List.drop_zero, List.append_nil, List.nil_append, List.cons_append, List.getElem?_cons_zero, List.getElem?_cons_succ, List.getElem?_nil, Nat.reduceAdd, Nat.reduceLeDiff, Nat.reduceSub, Nat.reduceMul, Nat.zero_add, and_self, and_true, true_and, List.foldl_cons, List.foldl_nil, shaped, D.isK, eqDs, D.eqv, Bool.and_true, Bool.true_and, decide_true, decide_false, beq_self_eq_true, bne_self_eq_false, List.set_cons_zero, List.set_cons_succ, Env.keep, List.map, eve, elemsD, PV.cellsOf, setCellsP, rvs, RV.get, retOf, expR, PV.argOf, PV.exp, PV.ids, PV.ids.idsL, List.all_nil, shrink, List.take_nil, Int.toNat_natCast, Int.toNat_zero, Int.natCast_nonneg, Int.le_refl, Bool.not_true, Bool.not_false, Ac.dst, Ac.gd]) <;> rfl))) | ((try simp only [*, appSrc, evq, evBin, optInt, intsOf, PV.elems, PV.dc1, PV.dcs, dc1L, fillD, splice, evLoad, Option.map_some, Option.map_none, get_cons, val_t, val_k, val_f, Nat.reduceEqDiff, Nat.succ_ne_self, ↓reduceIte, reduceCtorEq, List.length_cons, List.length_nil, List.take_succ_cons, List.take_zero, List.drop_succ_cons, List.drop_zero, List.append_nil, List.nil_append, List.cons_append, List.getElem?_cons_zero, List.getElem?_cons_succ, List.getElem?_nil, Nat.reduceAdd, Nat.reduceLeDiff, Nat.reduceSub, Nat.reduceMul, Nat.zero_add, and_self, and_true, true_and, List.foldl_cons, List.foldl_nil, shaped, D.isK, eqDs, D.eqv, Bool.and_true, Bool.true_and, decide_true, decide_false, beq_self_eq_true, bne_self_eq_false, List.set_cons_zero, List.set_cons_succ, Env.keep, List.map, eve, elemsD, PV.cellsOf, setCellsP, rvs, RV.get, retOf, expR, PV.argOf, PV.exp, PV.ids, PV.ids.idsL, List.all_nil, shrink, List.take_nil, Int.toNat_natCast, Int.toNat_zero, Int.natCast_nonneg, Int.le_refl, Bool.not_true, Bool.not_false, Ac.dst, Ac.gd]) <;> rfl))) (h1 : p0 = p := by ((try simp only [*, evq, evBin, optInt, intsOf, PV.elems, PV.dc1, PV.dcs, dc1L, fillD, splice, evLoad, Option.map_some, Option.map_none, get_cons, val_t, val_k, val_f, Nat.reduceEqDiff, Nat.succ_ne_self, ↓reduceIte, reduceCtorEq, List.length_cons, List.length_nil, List.take_succ_cons, List.take_zero, List.drop_succ_cons, List.drop_zero, List.append_nil, List.nil_append, List.cons_append, List.getElem?_cons_zero, List.getElem?_cons_succ, List.getElem?_nil, Nat.reduceAdd, Nat.reduceLeDiff, Nat.reduceSub, Nat.reduceMul, Nat.zero_add, and_self, and_true, true_and, List.foldl_cons, List.foldl_nil, shaped, D.isK, eqDs, D.eqv, Bool.and_true, Bool.true_and, decide_true, decide_false, beq_self_eq_true, bne_self_eq_false, List.set_cons_zero, List.set_cons_succ, Env.keep, List.map, eve, elemsD, PV.cellsOf, setCellsP, rvs, RV.get, retOf, expR, PV.argOf, PV.exp, PV.ids, PV.ids.idsL, List.all_nil, shrink, List.take_nil, Int.toNat_natCast, Int.toNat_zero, Int.natCast_nonneg, Int.le_refl, Bool.not_true, Bool.not_false, Ac.dst, Ac.gd]) <;> rfl)) (h2 : σ0 = σ' := by ((try simp only [*, evq, evBin, optInt, intsOf, PV.elems, PV.dc1, PV.dcs, dc1L, fillD, splice, evLoad, Option.map_some, Option.map_none, get_cons, val_t, val_k, val_f, Nat.reduceEqDiff, Nat.succ_ne_self, ↓reduceIte, reduceCtorEq, List.length_cons, List.length_nil, List.take_succ_cons, List.take_zero, List.drop_succ_cons, List.drop_zero, List.append_nil, List.nil_append, List.cons_append, List.getElem?_cons_zero, List.getElem?_cons_succ, List.getElem?_nil, Nat.reduceAdd, Nat.reduceLeDiff, Nat.reduceSub, Nat.reduceMul, Nat.zero_add, and_self, and_true, true_and, List.foldl_cons, List.foldl_nil, shaped, D.isK, eqDs, D.eqv, Bool.and_true, Bool.true_and, decide_true, decide_false, beq_self_eq_true, bne_self_eq_false, List.set_cons_zero, List.set_cons_succ, Env.keep, List.map, eve, elemsD, PV.cellsOf, setCellsP, rvs, RV.get, retOf, expR, PV.argOf, PV.exp, PV.ids, PV.ids.idsL, List.all_nil, shrink, List.take_nil, Int.toNat_natCast, Int.toNat_zero, Int.natCast_nonneg, Int.le_refl, Bool.not_true, Bool.not_false, Ac.dst, Ac.gd]) <;> rfl)) : wops Γ (.e none (some d) o :: r) Q env σ := by subst h1 h2; exact ops_e hp h
theorem oe {d : Nat} {o : EOp} {r : List Ac} {p : PV} {σ' : Store} (h : wops Γ r Q ((d, p) :: env) σ') (hp : eve σ (Opd.val env) o = some (p, σ') := by ((try simp only [*, evq, evBin, optInt, intsOf, PV.elems, PV.dc1, PV.dcs, dc1L, fillD, splice, evLoad, Option.map_some, Option.map_none, get_cons, val_t, val_k, val_f, Nat.reduceEqDiff, Nat.succ_ne_self, ↓reduceIte, reduceCtorEq, List.length_cons, List.length_nil, List.take_succ_cons, List.take_zero, List.drop_succ_cons, List.drop_zero, List.append_nil, List.nil_append, List.cons_append, List.getElem?_cons_zero, List.getElem?_cons_succ, List.getElem?_nil, Nat.reduceAdd, Nat.reduceLeDiff, Nat.reduceSub, Nat.reduceMul, Nat.zero_add, and_self, and_true, true_and, List.foldl_cons, List.foldl_nil, shaped, D.isK, eqDs, D.eqv, Bool.and_true, Bool.true_and, decide_true, decide_false, beq_self_eq_true, bne_self_eq_false, List.set_cons_zero, List.set_cons_succ, Env.keep, List.map, eve, elemsD, PV.cellsOf, setCellsP, rvs, RV.get, retOf, expR, PV.argOf, PV.exp, PV.ids, PV.ids.idsL, List.all_nil, shrink, List.take_nil, Int.toNat_natCast, Int.toNat_zero, Int.natCast_nonneg, Int.le_refl, Bool.not_true, Bool.not_false, Ac.dst, Ac.gd]) <;> rfl)) : wops Γ (.e none (some d) o :: r) Q env σ := ops_e hp h
theorem oen {o : EOp} {r : List Ac} {p : PV} {σ' : Store} (h : wops Γ r Q env σ') (hp : eve σ (Opd.val env) o = some (p, σ') := by ((try simp only [*, evq, evBin, optInt, intsOf, PV.elems, PV.dc1, PV.dcs, dc1L, fillD, splice, evLoad, Option.map_some, Option.map_none, get_cons, val_t, val_k, val_f, Nat.reduceEqDiff, Nat.succ_ne_self, ↓reduceIte, reduceCtorEq, List.length_cons, List.length_nil, List.take_succ_cons, List.take_zero, List.drop_succ_cons, List.drop_zero, List.append_nil, List.nil_append, List.cons_append, List.getElem?_cons_zero, List.getElem?_cons_succ, List.getElem?_nil, Nat.reduceAdd, Nat.reduceLeDiff, Nat.reduceSub, Nat.reduceMul, Nat.zero_add, and_self, and_true, true_and, List.foldl_cons, List.foldl_nil, shaped, D.isK, eqDs, D.eqv, Bool.and_true, Bool.true_and, decide_true, decide_false, beq_self_eq_true, bne_self_eq_false, List.set_cons_zero, List.set_cons_succ, Env.keep, List.map, eve, elemsD, PV.cellsOf, setCellsP, rvs, RV.get, retOf, expR, PV.argOf, PV.exp, PV.ids, PV.ids.idsL, List.all_nil, shrink, List.take_nil, Int.toNat_natCast, Int.toNat_zero, Int.natCast_nonneg, Int.le_refl, Bool.not_true, Bool.not_false, Ac.dst, Ac.gd]) <;> rfl)) : wops Γ (.e none none o :: r) Q env σ := ops_en hp h
theorem ia {d : Nat} {o : EOp} {p p0 : PV} {σ' σ0 : Store} (h : K ((d, p) :: env) σ') (hk : o.kind = 1 := by rfl) (hp : eve σ (Opd.val env) o = some (p0, σ0) := by (first | ((with_reducible apply eve_app) <;> (first | ((with_reducible refine bdo ?_); (first | omega | (simp only [List.length_cons, List.length_nil, List.length_map]; omega))) | assumption | rfl | (refine len1 ?_; rfl) | ((try simp only [*, appSrc, evq, evBin, optInt, intsOf, PV.elems, PV.dc1, PV.dcs, dc1L, fillD, splice, evLoad, Option.map_some, Option.map_none, get_cons, val_t, val_k, val_f, Nat.reduceEqDiff, Nat.succ_ne_self, ↓reduceIte, reduceCtorEq, List.length_cons, List.length_nil, List.take_succ_cons, List.take_zero, List.drop_succ_cons, List.drop_zero, List.append_nil, List.nil_append, List.cons_append, List.getElem?_cons_zero, List.getElem?_cons_succ, List.getElem?_nil, Nat.reduceAdd, Nat.reduceLeDiff, Nat.reduceSub, Nat.reduceMul, Nat.zero_add, and_self, and_true, true_and, List.foldl_cons, List.foldl_nil, shaped, D.isK, eqDs, D.eqv, Bool.and_true, Bool.true_and, decide_true, decide_false, beq_self_eq_true, bne_self_eq_false, List.set_cons_zero, List.set_cons_succ, Env.keep, List.map, eve, elemsD, PV.cellsOf, setCellsP, rvs, RV.get, retOf, expR, PV.argOf, PV.exp, PV.ids, PV.ids.idsL, List.all_nil, shrink, List.take_nil, Int.toNat_natCast, Int.toNat_zero, Int.natCast_nonneg, Int.le_refl, Bool.not_true, Bool.not_false, Ac.dst, Ac.gd]) <;> rfl))) | ((with_reducible apply eve_app0) <;> (first | ((with_reducible refine bdo ?_); (first | omega | (simp only [List.length_cons, List.length_nil, List.length_map]; omega))) | assumption | rfl | (refine len1 ?_; rfl) | ((try simp only [*, appSrc, evq, evBin, optInt, intsOf, PV.elems, PV.dc1, PV.dcs, dc1L, fillD, splice, evLoad, Option.map_some, Option.map_none, get_cons, val_t, val_k, val_f, Nat.reduceEqDiff, Nat.succ_ne_self, ↓reduceIte, reduceCtorEq, List.length_cons, List.length_nil, List.take_succ_cons, List.take_zero, List.drop_succ_cons, List.drop_zero, List.append_nil, List.nil_append, List.cons_append, List.getElem?_cons_zero, List.getElem?_cons_succ, List.getElem?_nil, Nat.reduceAdd, Nat.reduceLeDiff, Nat.reduceSub, Nat.reduceMul, Nat.zero_add, and_self, and_true, true_and, List.foldl_cons, List.foldl_nil, shaped, D.isK, eqDs, D.eqv, Bool.and_true, Bool.true_and, decide_true, decide_false, beq_self_eq_true, bne_self_eq_false, List.set_cons_zero, List.set_cons_succ, Env.keep, List.map, eve, elemsD, PV.cellsOf, setCellsP, rvs, RV.get, retOf, expR, PV.argOf, PV.exp, PV.ids, PV.ids.idsL, List.all_nil, shrink, List.take_nil, Int.toNat_natCast, Int.toNat_zero, Int.natCast_nonneg, Int.le_refl, Bool.not_true, Bool.not_false, Ac.dst, Ac.gd]) <;> rfl))) | ((try simp only [*, appSrc, evq, evBin, optInt, intsOf, PV.elems, PV.dc1, PV.dcs, dc1L, fillD, splice, evLoad, Option.map_some, Option.map_none, get_cons, val_t, val_k, val_f, Nat.reduceEqDiff, Nat.succ_ne_self, ↓reduceIte, reduceCtorEq, List.length_cons, List.length_nil, List.take_succ_cons, List.take_zero, List.drop_succ_cons, List.drop_zero, List.append_nil, List.nil_append, List.cons_append, List.getElem?_cons_zero, List.getElem?_cons_succ, List.getElem?_nil, Nat.reduceAdd, Nat.reduceLeDiff, Nat.reduceSub, Nat.reduceMul, Nat.zero_add, and_self, and_true, true_and, List.foldl_cons, List.foldl_nil, shaped, D.isK, eqDs, D.eqv, Bool.and_true, Bool.true_and, decide_true, decide_false, beq_self_eq_true, bne_self_eq_false, List.set_cons_zero, List.set_cons_succ, Env.keep, List.map, eve, elemsD, PV.cellsOf, setCellsP, rvs, RV.get, retOf, expR, PV.argOf, PV.exp, PV.ids, PV.ids.idsL, List.all_nil, shrink, List.take_nil, Int.toNat_natCast, Int.toNat_zero, Int.natCast_nonneg, Int.le_refl, Bool.not_true, Bool.not_false, Ac.dst, Ac.gd]) <;> rfl))) (h1 : p0 = p := by ((try simp only [*, evq, evBin, optInt, intsOf, PV.elems, PV.dc1, PV.dcs, dc1L, fillD, splice, evLoad, Option.map_some, Option.map_none, get_cons, val_t, val_k, val_f, Nat.reduceEqDiff, Nat.succ_ne_self, ↓reduceIte, reduceCtorEq, List.length_cons, List.length_nil, List.take_succ_cons, List.take_zero, List.drop_succ_cons, List.drop_zero, List.append_nil, List.nil_append, List.cons_append, List.getElem?_cons_zero, List.getElem?_cons_succ, List.getElem?_nil, Nat.reduceAdd, Nat.reduceLeDiff, Nat.reduceSub, Nat.reduceMul, Nat.zero_add, and_self, and_true, true_and, List.foldl_cons, List.foldl_nil, shaped, D.isK, eqDs, D.eqv, Bool.and_true, Bool.true_and, decide_true, decide_false, beq_self_eq_true, bne_self_eq_false, List.set_cons_zero, List.set_cons_succ, Env.keep, List.map, eve, elemsD, PV.cellsOf, setCellsP, rvs, RV.get, retOf, expR, PV.argOf, PV.exp, PV.ids, PV.ids.idsL, List.all_nil, shrink, List.take_nil, Int.toNat_natCast, Int.toNat_zero, Int.natCast_nonneg, Int.le_refl, Bool.not_true, Bool.not_false, Ac.dst, Ac.gd]) <;> rfl)) (h2 : σ0 = σ' := by ((try simp only [*, evq, evBin, optInt, intsOf, PV.elems, PV.dc1, PV.dcs, dc1L, fillD, splice, evLoad, Option.map_some, Option.map_none, get_cons, val_t, val_k, val_f, Nat.reduceEqDiff, Nat.succ_ne_self, ↓reduceIte, reduceCtorEq, List.length_cons, List.length_nil, List.take_succ_cons, List.take_zero, List.drop_succ_cons, List.drop_zero, List.append_nil, List.nil_append, List.cons_append, List.getElem?_cons_zero, List.getElem?_cons_succ, List.getElem?_nil, Nat.reduceAdd, Nat.reduceLeDiff, Nat.reduceSub, Nat.reduceMul, Nat.zero_add, and_self, and_true, true_and, List.foldl_cons, List.foldl_nil, shaped, D.isK, eqDs, D.eqv, Bool.and_true, Bool.true_and, decide_true, decide_false, beq_self_eq_true, bne_self_eq_false, List.set_cons_zero, List.set_cons_succ, Env.keep, List.map, eve, elemsD, PV.cellsOf, setCellsP, rvs, RV.get, retOf, expR, PV.argOf, PV.exp, PV.ids, PV.ids.idsL, List.all_nil, shrink, List.take_nil, Int.toNat_natCast, Int.toNat_zero, Int.natCast_nonneg, Int.le_refl, Bool.not_true, Bool.not_false, Ac.dst, Ac.gd]) <;> rfl)) : wio Γ Q env σ K (.e none (some d) o) := by subst h1 h2; exact io_e hp h
theorem ie {d : Nat} {o : EOp} {p : PV} {σ' : Store} (h : K ((d, p) :: env) σ') (hp : eve σ (Opd.val env) o = some (p, σ') := by ((try simp only [*, evq, evBin, optInt, intsOf, PV.elems, PV.dc1, PV.dcs, dc1L, fillD, splice, evLoad, Option.map_some, Option.map_none, get_cons, val_t, val_k, val_f, Nat.reduceEqDiff, Nat.succ_ne_self, ↓reduceIte, reduceCtorEq, List.length_cons, List.length_nil, List.take_succ_cons, List.take_zero, List.drop_succ_cons, List.drop_zero, List.append_nil, List.nil_append, List.cons_append, List.getElem?_cons_zero, List.getElem?_cons_succ, List.getElem?_nil, Nat.reduceAdd, Nat.reduceLeDiff, Nat.reduceSub, Nat.reduceMul, Nat.zero_add, and_self, and_true, true_and, List.foldl_cons, List.foldl_nil, shaped, D.isK, eqDs, D.eqv, Bool.and_true, Bool.true_and, decide_true, decide_false, beq_self_eq_true, bne_self_eq_false, List.set_cons_zero, List.set_cons_succ, Env.keep, List.map, eve, elemsD, PV.cellsOf, setCellsP, rvs, RV.get, retOf, expR, PV.argOf, PV.exp, PV.ids, PV.ids.idsL, List.all_nil, shrink, List.take_nil, Int.toNat_natCast, Int.toNat_zero, Int.natCast_nonneg, Int.le_refl, Bool.not_true, Bool.not_false, Ac.dst, Ac.gd]) <;> rfl)) : wio Γ Q env σ K (.e none (some d) o) := io_e hp h
theorem ien {o : EOp} {p : PV} {σ' : Store} (h : K env σ') (hp : eve σ (Opd.val env) o = some (p, σ') := by ((try simp only [*, evq, evBin, optInt, intsOf, PV.elems, PV.dc1, PV.dcs, dc1L, fillD, splice, evLoad, Option.map_some, Option.map_none, get_cons, val_t, val_k, val_f, Nat.reduceEqDiff, Nat.succ_ne_self, ↓reduceIte, reduceCtorEq, List.length_cons, List.length_nil, List.take_succ_cons, List.take_zero, List.drop_succ_cons, List.drop_zero, List.append_nil, List.nil_append, List.cons_append, List.getElem?_cons_zero, List.getElem?_cons_succ, List.getElem?_nil, Nat.reduceAdd, Nat.reduceLeDiff, Nat.reduceSub, Nat.reduceMul, Nat.zero_add, and_self, and_true, true_and, List.foldl_cons, List.foldl_nil, shaped, D.isK, eqDs, D.eqv, Bool.and_true, Bool.true_and, decide_true, decide_false, beq_self_eq_true, bne_self_eq_false, List.set_cons_zero, List.set_cons_succ, Env.keep, List.map, eve, elemsD, PV.cellsOf, setCellsP, rvs, RV.get, retOf, expR, PV.argOf, PV.exp, PV.ids, PV.ids.idsL, List.all_nil, shrink, List.take_nil, Int.toNat_natCast, Int.toNat_zero, Int.natCast_nonneg, Int.le_refl, Bool.not_true, Bool.not_false, Ac.dst, Ac.gd]) <;> rfl)) : wio Γ Q env σ K (.e none none o) := io_en hp h
theorem oo {t n : Nat} {sz : TypeId × Nat} {r : List Ac} {σ' : Store} (h : wops Γ r Q ((t, .lref n 0) :: env) σ') (hx : env.get t = .snil := by ((try simp only [*, evq, evBin, optInt, intsOf, PV.elems, PV.dc1, PV.dcs, dc1L, fillD, splice, evLoad, Option.map_some, Option.map_none, get_cons, val_t, val_k, val_f, Nat.reduceEqDiff, Nat.succ_ne_self, ↓reduceIte, reduceCtorEq, List.length_cons, List.length_nil, List.take_succ_cons, List.take_zero, List.drop_succ_cons, List.drop_zero, List.append_nil, List.nil_append, List.cons_append, List.getElem?_cons_zero, List.getElem?_cons_succ, List.getElem?_nil, Nat.reduceAdd, Nat.reduceLeDiff, Nat.reduceSub, Nat.reduceMul, Nat.zero_add, and_self, and_true, true_and, List.foldl_cons, List.foldl_nil, shaped, D.isK, eqDs, D.eqv, Bool.and_true, Bool.true_and, decide_true, decide_false, beq_self_eq_true, bne_self_eq_false, List.set_cons_zero, List.set_cons_succ, Env.keep, List.map, eve, elemsD, PV.cellsOf, setCellsP, rvs, RV.get, retOf, expR, PV.argOf, PV.exp, PV.ids, PV.ids.idsL, List.all_nil, shrink, List.take_nil, Int.toNat_natCast, Int.toNat_zero, Int.natCast_nonneg, Int.le_refl, Bool.not_true, Bool.not_false, Ac.dst, Ac.gd]) <;> rfl)) (hn : σ.length = n := by ((try simp only [*, evq, evBin, optInt, intsOf, PV.elems, PV.dc1, PV.dcs, dc1L, fillD, splice, evLoad, Option.map_some, Option.map_none, get_cons, val_t, val_k, val_f, Nat.reduceEqDiff, Nat.succ_ne_self, ↓reduceIte, reduceCtorEq, List.length_cons, List.length_nil, List.take_succ_cons, List.take_zero, List.drop_succ_cons, List.drop_zero, List.append_nil, List.nil_append, List.cons_append, List.getElem?_cons_zero, List.getElem?_cons_succ, List.getElem?_nil, Nat.reduceAdd, Nat.reduceLeDiff, Nat.reduceSub, Nat.reduceMul, Nat.zero_add, and_self, and_true, true_and, List.foldl_cons, List.foldl_nil, shaped, D.isK, eqDs, D.eqv, Bool.and_true, Bool.true_and, decide_true, decide_false, beq_self_eq_true, bne_self_eq_false, List.set_cons_zero, List.set_cons_succ, Env.keep, List.map, eve, elemsD, PV.cellsOf, setCellsP, rvs, RV.get, retOf, expR, PV.argOf, PV.exp, PV.ids, PV.ids.idsL, List.all_nil, shrink, List.take_nil, Int.toNat_natCast, Int.toNat_zero, Int.natCast_nonneg, Int.le_refl, Bool.not_true, Bool.not_false, Ac.dst, Ac.gd]) <;> rfl)) (hσ : σ ++ [.lst sz []] = σ' := by ((try simp only [*, evq, evBin, optInt, intsOf, PV.elems, PV.dc1, PV.dcs, dc1L, fillD, splice, evLoad, Option.map_some, Option.map_none, get_cons, val_t, val_k, val_f, Nat.reduceEqDiff, Nat.succ_ne_self, ↓reduceIte, reduceCtorEq, List.length_cons, List.length_nil, List.take_succ_cons, List.take_zero, List.drop_succ_cons, List.drop_zero, List.append_nil, List.nil_append, List.cons_append, List.getElem?_cons_zero, List.getElem?_cons_succ, List.getElem?_nil, Nat.reduceAdd, Nat.reduceLeDiff, Nat.reduceSub, Nat.reduceMul, Nat.zero_add, and_self, and_true, true_and, List.foldl_cons, List.foldl_nil, shaped, D.isK, eqDs, D.eqv, Bool.and_true, Bool.true_and, decide_true, decide_false, beq_self_eq_true, bne_self_eq_false, List.set_cons_zero, List.set_cons_succ, Env.keep, List.map, eve, elemsD, PV.cellsOf, setCellsP, rvs, RV.get, retOf, expR, PV.argOf, PV.exp, PV.ids, PV.ids.idsL, List.all_nil, shrink, List.take_nil, Int.toNat_natCast, Int.toNat_zero, Int.natCast_nonneg, Int.le_refl, Bool.not_true, Bool.not_false, Ac.dst, Ac.gd]) <;> rfl)) : wops Γ (.own t sz :: r) Q env σ := by
  refine ops_own ?_
  unfold stepOwn
  rw [hx]
  subst hn hσ
  exact h
theorem oob {t off b o n : Nat} {sz : TypeId × Nat} {ty : TypeId} {cs : List PV} {r : List Ac} {σ' : Store} (h : wops Γ r Q env σ') (hx : env.get t = .ptr b o := by ((try simp only [*, evq, evBin, optInt, intsOf, PV.elems, PV.dc1, PV.dcs, dc1L, fillD, splice, evLoad, Option.map_some, Option.map_none, get_cons, val_t, val_k, val_f, Nat.reduceEqDiff, Nat.succ_ne_self, ↓reduceIte, reduceCtorEq, List.length_cons, List.length_nil, List.take_succ_cons, List.take_zero, List.drop_succ_cons, List.drop_zero, List.append_nil, List.nil_append, List.cons_append, List.getElem?_cons_zero, List.getElem?_cons_succ, List.getElem?_nil, Nat.reduceAdd, Nat.reduceLeDiff, Nat.reduceSub, Nat.reduceMul, Nat.zero_add, and_self, and_true, true_and, List.foldl_cons, List.foldl_nil, shaped, D.isK, eqDs, D.eqv, Bool.and_true, Bool.true_and, decide_true, decide_false, beq_self_eq_true, bne_self_eq_false, List.set_cons_zero, List.set_cons_succ, Env.keep, List.map, eve, elemsD, PV.cellsOf, setCellsP, rvs, RV.get, retOf, expR, PV.argOf, PV.exp, PV.ids, PV.ids.idsL, List.all_nil, shrink, List.take_nil, Int.toNat_natCast, Int.toNat_zero, Int.natCast_nonneg, Int.le_refl, Bool.not_true, Bool.not_false, Ac.dst, Ac.gd]) <;> rfl)) (hb : σ[b]? = some (.box ty cs) := by ((try simp only [*, evq, evBin, optInt, intsOf, PV.elems, PV.dc1, PV.dcs, dc1L, fillD, splice, evLoad, Option.map_some, Option.map_none, get_cons, val_t, val_k, val_f, Nat.reduceEqDiff, Nat.succ_ne_self, ↓reduceIte, reduceCtorEq, List.length_cons, List.length_nil, List.take_succ_cons, List.take_zero, List.drop_succ_cons, List.drop_zero, List.append_nil, List.nil_append, List.cons_append, List.getElem?_cons_zero, List.getElem?_cons_succ, List.getElem?_nil, Nat.reduceAdd, Nat.reduceLeDiff, Nat.reduceSub, Nat.reduceMul, Nat.zero_add, and_self, and_true, true_and, List.foldl_cons, List.foldl_nil, shaped, D.isK, eqDs, D.eqv, Bool.and_true, Bool.true_and, decide_true, decide_false, beq_self_eq_true, bne_self_eq_false, List.set_cons_zero, List.set_cons_succ, Env.keep, List.map, eve, elemsD, PV.cellsOf, setCellsP, rvs, RV.get, retOf, expR, PV.argOf, PV.exp, PV.ids, PV.ids.idsL, List.all_nil, shrink, List.take_nil, Int.toNat_natCast, Int.toNat_zero, Int.natCast_nonneg, Int.le_refl, Bool.not_true, Bool.not_false, Ac.dst, Ac.gd]) <;> rfl)) (hc : cs[o + off]? = some .snil := by ((try simp only [*, evq, evBin, optInt, intsOf, PV.elems, PV.dc1, PV.dcs, dc1L, fillD, splice, evLoad, Option.map_some, Option.map_none, get_cons, val_t, val_k, val_f, Nat.reduceEqDiff, Nat.succ_ne_self, ↓reduceIte, reduceCtorEq, List.length_cons, List.length_nil, List.take_succ_cons, List.take_zero, List.drop_succ_cons, List.drop_zero, List.append_nil, List.nil_append, List.cons_append, List.getElem?_cons_zero, List.getElem?_cons_succ, List.getElem?_nil, Nat.reduceAdd, Nat.reduceLeDiff, Nat.reduceSub, Nat.reduceMul, Nat.zero_add, and_self, and_true, true_and, List.foldl_cons, List.foldl_nil, shaped, D.isK, eqDs, D.eqv, Bool.and_true, Bool.true_and, decide_true, decide_false, beq_self_eq_true, bne_self_eq_false, List.set_cons_zero, List.set_cons_succ, Env.keep, List.map, eve, elemsD, PV.cellsOf, setCellsP, rvs, RV.get, retOf, expR, PV.argOf, PV.exp, PV.ids, PV.ids.idsL, List.all_nil, shrink, List.take_nil, Int.toNat_natCast, Int.toNat_zero, Int.natCast_nonneg, Int.le_refl, Bool.not_true, Bool.not_false, Ac.dst, Ac.gd]) <;> rfl)) (hn : σ.length = n := by ((try simp only [*, evq, evBin, optInt, intsOf, PV.elems, PV.dc1, PV.dcs, dc1L, fillD, splice, evLoad, Option.map_some, Option.map_none, get_cons, val_t, val_k, val_f, Nat.reduceEqDiff, Nat.succ_ne_self, ↓reduceIte, reduceCtorEq, List.length_cons, List.length_nil, List.take_succ_cons, List.take_zero, List.drop_succ_cons, List.drop_zero, List.append_nil, List.nil_append, List.cons_append, List.getElem?_cons_zero, List.getElem?_cons_succ, List.getElem?_nil, Nat.reduceAdd, Nat.reduceLeDiff, Nat.reduceSub, Nat.reduceMul, Nat.zero_add, and_self, and_true, true_and, List.foldl_cons, List.foldl_nil, shaped, D.isK, eqDs, D.eqv, Bool.and_true, Bool.true_and, decide_true, decide_false, beq_self_eq_true, bne_self_eq_false, List.set_cons_zero, List.set_cons_succ, Env.keep, List.map, eve, elemsD, PV.cellsOf, setCellsP, rvs, RV.get, retOf, expR, PV.argOf, PV.exp, PV.ids, PV.ids.idsL, List.all_nil, shrink, List.take_nil, Int.toNat_natCast, Int.toNat_zero, Int.natCast_nonneg, Int.le_refl, Bool.not_true, Bool.not_false, Ac.dst, Ac.gd]) <;> rfl))
    (hσ : (σ ++ [Ent.lst sz []]).set b (.box ty (cs.set (o + off) (.lref n 0))) = σ' := by ((try simp only [*, evq, evBin, optInt, intsOf, PV.elems, PV.dc1, PV.dcs, dc1L, fillD, splice, evLoad, Option.map_some, Option.map_none, get_cons, val_t, val_k, val_f, Nat.reduceEqDiff, Nat.succ_ne_self, ↓reduceIte, reduceCtorEq, List.length_cons, List.length_nil, List.take_succ_cons, List.take_zero, List.drop_succ_cons, List.drop_zero, List.append_nil, List.nil_append, List.cons_append, List.getElem?_cons_zero, List.getElem?_cons_succ, List.getElem?_nil, Nat.reduceAdd, Nat.reduceLeDiff, Nat.reduceSub, Nat.reduceMul, Nat.zero_add, and_self, and_true, true_and, List.foldl_cons, List.foldl_nil, shaped, D.isK, eqDs, D.eqv, Bool.and_true, Bool.true_and, decide_true, decide_false, beq_self_eq_true, bne_self_eq_false, List.set_cons_zero, List.set_cons_succ, Env.keep, List.map, eve, elemsD, PV.cellsOf, setCellsP, rvs, RV.get, retOf, expR, PV.argOf, PV.exp, PV.ids, PV.ids.idsL, List.all_nil, shrink, List.take_nil, Int.toNat_natCast, Int.toNat_zero, Int.natCast_nonneg, Int.le_refl, Bool.not_true, Bool.not_false, Ac.dst, Ac.gd]) <;> rfl)) : wops Γ (.ownb t off sz :: r) Q env σ := by
  refine ops_ownb ?_
  unfold stepOwnB
  rw [hx]
  simp only
  rw [hb]
  simp only
  rw [hc]
  subst hn hσ
  exact h
theorem okp {l : List Nat} {c : IC} {env' : Env} (h : wic Γ c Q env' σ) (he : env.keep l = env' := by ((try simp only [*, evq, evBin, optInt, intsOf, PV.elems, PV.dc1, PV.dcs, dc1L, fillD, splice, evLoad, Option.map_some, Option.map_none, get_cons, val_t, val_k, val_f, Nat.reduceEqDiff, Nat.succ_ne_self, ↓reduceIte, reduceCtorEq, List.length_cons, List.length_nil, List.take_succ_cons, List.take_zero, List.drop_succ_cons, List.drop_zero, List.append_nil, List.nil_append, List.cons_append, List.getElem?_cons_zero, List.getElem?_cons_succ, List.getElem?_nil, Nat.reduceAdd, Nat.reduceLeDiff, Nat.reduceSub, Nat.reduceMul, Nat.zero_add, and_self, and_true, true_and, List.foldl_cons, List.foldl_nil, shaped, D.isK, eqDs, D.eqv, Bool.and_true, Bool.true_and, decide_true, decide_false, beq_self_eq_true, bne_self_eq_false, List.set_cons_zero, List.set_cons_succ, Env.keep, List.map, eve, elemsD, PV.cellsOf, setCellsP, rvs, RV.get, retOf, expR, PV.argOf, PV.exp, PV.ids, PV.ids.idsL, List.all_nil, shrink, List.take_nil, Int.toNat_natCast, Int.toNat_zero, Int.natCast_nonneg, Int.le_refl, Bool.not_true, Bool.not_false, Ac.dst, Ac.gd]) <;> rfl)) : wic Γ (.kp l c) Q env σ := wic_kp he h
theorem olp {l : List Nat} {c : IC} {env' : Env} (h : LP Γ l c Q env' σ) (he : env.keep l = env' := by ((try simp only [*, evq, evBin, optInt, intsOf, PV.elems, PV.dc1, PV.dcs, dc1L, fillD, splice, evLoad, Option.map_some, Option.map_none, get_cons, val_t, val_k, val_f, Nat.reduceEqDiff, Nat.succ_ne_self, ↓reduceIte, reduceCtorEq, List.length_cons, List.length_nil, List.take_succ_cons, List.take_zero, List.drop_succ_cons, List.drop_zero, List.append_nil, List.nil_append, List.cons_append, List.getElem?_cons_zero, List.getElem?_cons_succ, List.getElem?_nil, Nat.reduceAdd, Nat.reduceLeDiff, Nat.reduceSub, Nat.reduceMul, Nat.zero_add, and_self, and_true, true_and, List.foldl_cons, List.foldl_nil, shaped, D.isK, eqDs, D.eqv, Bool.and_true, Bool.true_and, decide_true, decide_false, beq_self_eq_true, bne_self_eq_false, List.set_cons_zero, List.set_cons_succ, Env.keep, List.map, eve, elemsD, PV.cellsOf, setCellsP, rvs, RV.get, retOf, expR, PV.argOf, PV.exp, PV.ids, PV.ids.idsL, List.all_nil, shrink, List.take_nil, Int.toNat_natCast, Int.toNat_zero, Int.natCast_nonneg, Int.le_refl, Bool.not_true, Bool.not_false, Ac.dst, Ac.gd]) <;> rfl)) : wic Γ (.loop l c) Q env σ := wic_loop he h
theorem ocg {c : Opd} {a b : IC} {p : PV} (h : guardK p true (wic Γ a Q env σ) (wic Γ b Q env σ) False) (hx : c.val env = p := by ((try simp only [*, evq, evBin, optInt, intsOf, PV.elems, PV.dc1, PV.dcs, dc1L, fillD, splice, evLoad, Option.map_some, Option.map_none, get_cons, val_t, val_k, val_f, Nat.reduceEqDiff, Nat.succ_ne_self, ↓reduceIte, reduceCtorEq, List.length_cons, List.length_nil, List.take_succ_cons, List.take_zero, List.drop_succ_cons, List.drop_zero, List.append_nil, List.nil_append, List.cons_append, List.getElem?_cons_zero, List.getElem?_cons_succ, List.getElem?_nil, Nat.reduceAdd, Nat.reduceLeDiff, Nat.reduceSub, Nat.reduceMul, Nat.zero_add, and_self, and_true, true_and, List.foldl_cons, List.foldl_nil, shaped, D.isK, eqDs, D.eqv, Bool.and_true, Bool.true_and, decide_true, decide_false, beq_self_eq_true, bne_self_eq_false, List.set_cons_zero, List.set_cons_succ, Env.keep, List.map, eve, elemsD, PV.cellsOf, setCellsP, rvs, RV.get, retOf, expR, PV.argOf, PV.exp, PV.ids, PV.ids.idsL, List.all_nil, shrink, List.take_nil, Int.toNat_natCast, Int.toNat_zero, Int.natCast_nonneg, Int.le_refl, Bool.not_true, Bool.not_false, Ac.dst, Ac.gd]) <;> rfl)) : wic Γ (.cond c a b) Q env σ := wic_cg hx h
theorem og {io : Ac} {r : List Ac} {t : Nat} {b : Bool} {od : Option Nat} {p : PV} (h : guardK p b (wops Γ (io.bare :: r) Q ((t, .d (.bool b)) :: env) σ) (wops Γ r Q (Env.putO ((t, .d (.bool !b)) :: env) od (.tup [])) σ) (wops Γ r Q (env.putO od (.tup [])) σ)) (hg : io.gd = some (t, b) := by rfl) (hd : io.dst = od := by ((try simp only [Ac.dst]) <;> rfl)) (hx : env.get t = p := by ((try simp only [*, evq, evBin, optInt, intsOf, PV.elems, PV.dc1, PV.dcs, dc1L, fillD, splice, evLoad, Option.map_some, Option.map_none, get_cons, val_t, val_k, val_f, Nat.reduceEqDiff, Nat.succ_ne_self, ↓reduceIte, reduceCtorEq, List.length_cons, List.length_nil, List.take_succ_cons, List.take_zero, List.drop_succ_cons, List.drop_zero, List.append_nil, List.nil_append, List.cons_append, List.getElem?_cons_zero, List.getElem?_cons_succ, List.getElem?_nil, Nat.reduceAdd, Nat.reduceLeDiff, Nat.reduceSub, Nat.reduceMul, Nat.zero_add, and_self, and_true, true_and, List.foldl_cons, List.foldl_nil, shaped, D.isK, eqDs, D.eqv, Bool.and_true, Bool.true_and, decide_true, decide_false, beq_self_eq_true, bne_self_eq_false, List.set_cons_zero, List.set_cons_succ, Env.keep, List.map, eve, elemsD, PV.cellsOf, setCellsP, rvs, RV.get, retOf, expR, PV.argOf, PV.exp, PV.ids, PV.ids.idsL, List.all_nil, shrink, List.take_nil, Int.toNat_natCast, Int.toNat_zero, Int.natCast_nonneg, Int.le_refl, Bool.not_true, Bool.not_false, Ac.dst, Ac.gd]) <;> rfl)) : wops Γ (io :: r) Q env σ := ops_g hg hd hx h
theorem ig {io : Ac} {t : Nat} {b : Bool} {od : Option Nat} {p : PV} (h : guardK p b (wio Γ Q ((t, .d (.bool b)) :: env) σ K io.bare) (K (Env.putO ((t, .d (.bool !b)) :: env) od (.tup [])) σ) (K (env.putO od (.tup [])) σ)) (hg : io.gd = some (t, b) := by rfl) (hd : io.dst = od := by ((try simp only [Ac.dst]) <;> rfl)) (hx : env.get t = p := by ((try simp only [*, evq, evBin, optInt, intsOf, PV.elems, PV.dc1, PV.dcs, dc1L, fillD, splice, evLoad, Option.map_some, Option.map_none, get_cons, val_t, val_k, val_f, Nat.reduceEqDiff, Nat.succ_ne_self, ↓reduceIte, reduceCtorEq, List.length_cons, List.length_nil, List.take_succ_cons, List.take_zero, List.drop_succ_cons, List.drop_zero, List.append_nil, List.nil_append, List.cons_append, List.getElem?_cons_zero, List.getElem?_cons_succ, List.getElem?_nil, Nat.reduceAdd, Nat.reduceLeDiff, Nat.reduceSub, Nat.reduceMul, Nat.zero_add, and_self, and_true, true_and, List.foldl_cons, List.foldl_nil, shaped, D.isK, eqDs, D.eqv, Bool.and_true, Bool.true_and, decide_true, decide_false, beq_self_eq_true, bne_self_eq_false, List.set_cons_zero, List.set_cons_succ, Env.keep, List.map, eve, elemsD, PV.cellsOf, setCellsP, rvs, RV.get, retOf, expR, PV.argOf, PV.exp, PV.ids, PV.ids.idsL, List.all_nil, shrink, List.take_nil, Int.toNat_natCast, Int.toNat_zero, Int.natCast_nonneg, Int.le_refl, Bool.not_true, Bool.not_false, Ac.dst, Ac.gd]) <;> rfl)) : wio Γ Q env σ K io := io_g hg hd hx h
theorem oc {dst : Option Nat} {f : FuncId} {args : List Opd} {r : List Ac} {az : List PV} (h : wcall Γ f az σ (onOut Q env dst fun e s => wops Γ r Q e s)) (ha : args.map (Opd.val env) = az := by ((try simp only [*, evq, evBin, optInt, intsOf, PV.elems, PV.dc1, PV.dcs, dc1L, fillD, splice, evLoad, Option.map_some, Option.map_none, get_cons, val_t, val_k, val_f, Nat.reduceEqDiff, Nat.succ_ne_self, ↓reduceIte, reduceCtorEq, List.length_cons, List.length_nil, List.take_succ_cons, List.take_zero, List.drop_succ_cons, List.drop_zero, List.append_nil, List.nil_append, List.cons_append, List.getElem?_cons_zero, List.getElem?_cons_succ, List.getElem?_nil, Nat.reduceAdd, Nat.reduceLeDiff, Nat.reduceSub, Nat.reduceMul, Nat.zero_add, and_self, and_true, true_and, List.foldl_cons, List.foldl_nil, shaped, D.isK, eqDs, D.eqv, Bool.and_true, Bool.true_and, decide_true, decide_false, beq_self_eq_true, bne_self_eq_false, List.set_cons_zero, List.set_cons_succ, Env.keep, List.map, eve, elemsD, PV.cellsOf, setCellsP, rvs, RV.get, retOf, expR, PV.argOf, PV.exp, PV.ids, PV.ids.idsL, List.all_nil, shrink, List.take_nil, Int.toNat_natCast, Int.toNat_zero, Int.natCast_nonneg, Int.le_refl, Bool.not_true, Bool.not_false, Ac.dst, Ac.gd]) <;> rfl)) : wops Γ (.call none dst f args :: r) Q env σ := ops_call ha h
theorem ic {dst : Option Nat} {f : FuncId} {args : List Opd} {az : List PV} (h : wcall Γ f az σ (onOut Q env dst K)) (ha : args.map (Opd.val env) = az := by ((try simp only [*, evq, evBin, optInt, intsOf, PV.elems, PV.dc1, PV.dcs, dc1L, fillD, splice, evLoad, Option.map_some, Option.map_none, get_cons, val_t, val_k, val_f, Nat.reduceEqDiff, Nat.succ_ne_self, ↓reduceIte, reduceCtorEq, List.length_cons, List.length_nil, List.take_succ_cons, List.take_zero, List.drop_succ_cons, List.drop_zero, List.append_nil, List.nil_append, List.cons_append, List.getElem?_cons_zero, List.getElem?_cons_succ, List.getElem?_nil, Nat.reduceAdd, Nat.reduceLeDiff, Nat.reduceSub, Nat.reduceMul, Nat.zero_add, and_self, and_true, true_and, List.foldl_cons, List.foldl_nil, shaped, D.isK, eqDs, D.eqv, Bool.and_true, Bool.true_and, decide_true, decide_false, beq_self_eq_true, bne_self_eq_false, List.set_cons_zero, List.set_cons_succ, Env.keep, List.map, eve, elemsD, PV.cellsOf, setCellsP, rvs, RV.get, retOf, expR, PV.argOf, PV.exp, PV.ids, PV.ids.idsL, List.all_nil, shrink, List.take_nil, Int.toNat_natCast, Int.toNat_zero, Int.natCast_nonneg, Int.le_refl, Bool.not_true, Bool.not_false, Ac.dst, Ac.gd]) <;> rfl)) : wio Γ Q env σ K (.call none dst f args) := io_call ha h
theorem ov {dst : Option Nat} {x : Opd} {f : FuncId} {pre caps : List PV} {args : List Opd} {r : List Ac} {az : List PV} (h : wcall Γ f az σ (onOut Q env dst fun e s => wops Γ r Q e s)) (hx : x.val env = .fn f pre caps := by ((try simp only [*, evq, evBin, optInt, intsOf, PV.elems, PV.dc1, PV.dcs, dc1L, fillD, splice, evLoad, Option.map_some, Option.map_none, get_cons, val_t, val_k, val_f, Nat.reduceEqDiff, Nat.succ_ne_self, ↓reduceIte, reduceCtorEq, List.length_cons, List.length_nil, List.take_succ_cons, List.take_zero, List.drop_succ_cons, List.drop_zero, List.append_nil, List.nil_append, List.cons_append, List.getElem?_cons_zero, List.getElem?_cons_succ, List.getElem?_nil, Nat.reduceAdd, Nat.reduceLeDiff, Nat.reduceSub, Nat.reduceMul, Nat.zero_add, and_self, and_true, true_and, List.foldl_cons, List.foldl_nil, shaped, D.isK, eqDs, D.eqv, Bool.and_true, Bool.true_and, decide_true, decide_false, beq_self_eq_true, bne_self_eq_false, List.set_cons_zero, List.set_cons_succ, Env.keep, List.map, eve, elemsD, PV.cellsOf, setCellsP, rvs, RV.get, retOf, expR, PV.argOf, PV.exp, PV.ids, PV.ids.idsL, List.all_nil, shrink, List.take_nil, Int.toNat_natCast, Int.toNat_zero, Int.natCast_nonneg, Int.le_refl, Bool.not_true, Bool.not_false, Ac.dst, Ac.gd]) <;> rfl)) (ha : pre ++ args.map (Opd.val env) ++ caps = az := by ((try simp only [*, evq, evBin, optInt, intsOf, PV.elems, PV.dc1, PV.dcs, dc1L, fillD, splice, evLoad, Option.map_some, Option.map_none, get_cons, val_t, val_k, val_f, Nat.reduceEqDiff, Nat.succ_ne_self, ↓reduceIte, reduceCtorEq, List.length_cons, List.length_nil, List.take_succ_cons, List.take_zero, List.drop_succ_cons, List.drop_zero, List.append_nil, List.nil_append, List.cons_append, List.getElem?_cons_zero, List.getElem?_cons_succ, List.getElem?_nil, Nat.reduceAdd, Nat.reduceLeDiff, Nat.reduceSub, Nat.reduceMul, Nat.zero_add, and_self, and_true, true_and, List.foldl_cons, List.foldl_nil, shaped, D.isK, eqDs, D.eqv, Bool.and_true, Bool.true_and, decide_true, decide_false, beq_self_eq_true, bne_self_eq_false, List.set_cons_zero, List.set_cons_succ, Env.keep, List.map, eve, elemsD, PV.cellsOf, setCellsP, rvs, RV.get, retOf, expR, PV.argOf, PV.exp, PV.ids, PV.ids.idsL, List.all_nil, shrink, List.take_nil, Int.toNat_natCast, Int.toNat_zero, Int.natCast_nonneg, Int.le_refl, Bool.not_true, Bool.not_false, Ac.dst, Ac.gd]) <;> rfl)) : wops Γ (.callv none dst x args :: r) Q env σ := ops_callv hx ha h
theorem iv {dst : Option Nat} {x : Opd} {f : FuncId} {pre caps : List PV} {args : List Opd} {az : List PV} (h : wcall Γ f az σ (onOut Q env dst K)) (hx : x.val env = .fn f pre caps := by ((try simp only [*, evq, evBin, optInt, intsOf, PV.elems, PV.dc1, PV.dcs, dc1L, fillD, splice, evLoad, Option.map_some, Option.map_none, get_cons, val_t, val_k, val_f, Nat.reduceEqDiff, Nat.succ_ne_self, ↓reduceIte, reduceCtorEq, List.length_cons, List.length_nil, List.take_succ_cons, List.take_zero, List.drop_succ_cons, List.drop_zero, List.append_nil, List.nil_append, List.cons_append, List.getElem?_cons_zero, List.getElem?_cons_succ, List.getElem?_nil, Nat.reduceAdd, Nat.reduceLeDiff, Nat.reduceSub, Nat.reduceMul, Nat.zero_add, and_self, and_true, true_and, List.foldl_cons, List.foldl_nil, shaped, D.isK, eqDs, D.eqv, Bool.and_true, Bool.true_and, decide_true, decide_false, beq_self_eq_true, bne_self_eq_false, List.set_cons_zero, List.set_cons_succ, Env.keep, List.map, eve, elemsD, PV.cellsOf, setCellsP, rvs, RV.get, retOf, expR, PV.argOf, PV.exp, PV.ids, PV.ids.idsL, List.all_nil, shrink, List.take_nil, Int.toNat_natCast, Int.toNat_zero, Int.natCast_nonneg, Int.le_refl, Bool.not_true, Bool.not_false, Ac.dst, Ac.gd]) <;> rfl)) (ha : pre ++ args.map (Opd.val env) ++ caps = az := by ((try simp only [*, evq, evBin, optInt, intsOf, PV.elems, PV.dc1, PV.dcs, dc1L, fillD, splice, evLoad, Option.map_some, Option.map_none, get_cons, val_t, val_k, val_f, Nat.reduceEqDiff, Nat.succ_ne_self, ↓reduceIte, reduceCtorEq, List.length_cons, List.length_nil, List.take_succ_cons, List.take_zero, List.drop_succ_cons, List.drop_zero, List.append_nil, List.nil_append, List.cons_append, List.getElem?_cons_zero, List.getElem?_cons_succ, List.getElem?_nil, Nat.reduceAdd, Nat.reduceLeDiff, Nat.reduceSub, Nat.reduceMul, Nat.zero_add, and_self, and_true, true_and, List.foldl_cons, List.foldl_nil, shaped, D.isK, eqDs, D.eqv, Bool.and_true, Bool.true_and, decide_true, decide_false, beq_self_eq_true, bne_self_eq_false, List.set_cons_zero, List.set_cons_succ, Env.keep, List.map, eve, elemsD, PV.cellsOf, setCellsP, rvs, RV.get, retOf, expR, PV.argOf, PV.exp, PV.ids, PV.ids.idsL, List.all_nil, shrink, List.take_nil, Int.toNat_natCast, Int.toNat_zero, Int.natCast_nonneg, Int.le_refl, Bool.not_true, Bool.not_false, Ac.dst, Ac.gd]) <;> rfl)) : wio Γ Q env σ K (.callv none dst x args) := io_callv hx ha h
theorem oqn {o : QOp} {r : List Ac} {p : PV} (h : wops Γ r Q env σ) (hp : evq σ (Opd.val env) o = some p := by ((try simp only [*, evq, evBin, optInt, intsOf, PV.elems, PV.dc1, PV.dcs, dc1L, fillD, splice, evLoad, Option.map_some, Option.map_none, get_cons, val_t, val_k, val_f, Nat.reduceEqDiff, Nat.succ_ne_self, ↓reduceIte, reduceCtorEq, List.length_cons, List.length_nil, List.take_succ_cons, List.take_zero, List.drop_succ_cons, List.drop_zero, List.append_nil, List.nil_append, List.cons_append, List.getElem?_cons_zero, List.getElem?_cons_succ, List.getElem?_nil, Nat.reduceAdd, Nat.reduceLeDiff, Nat.reduceSub, Nat.reduceMul, Nat.zero_add, and_self, and_true, true_and, List.foldl_cons, List.foldl_nil, shaped, D.isK, eqDs, D.eqv, Bool.and_true, Bool.true_and, decide_true, decide_false, beq_self_eq_true, bne_self_eq_false, List.set_cons_zero, List.set_cons_succ, Env.keep, List.map, eve, elemsD, PV.cellsOf, setCellsP, rvs, RV.get, retOf, expR, PV.argOf, PV.exp, PV.ids, PV.ids.idsL, List.all_nil, shrink, List.take_nil, Int.toNat_natCast, Int.toNat_zero, Int.natCast_nonneg, Int.le_refl, Bool.not_true, Bool.not_false, Ac.dst, Ac.gd]) <;> rfl)) : wops Γ (.q none none o :: r) Q env σ := ops_qn hp h
theorem iqn {o : QOp} {p : PV} (h : K env σ) (hp : evq σ (Opd.val env) o = some p := by ((try simp only [*, evq, evBin, optInt, intsOf, PV.elems, PV.dc1, PV.dcs, dc1L, fillD, splice, evLoad, Option.map_some, Option.map_none, get_cons, val_t, val_k, val_f, Nat.reduceEqDiff, Nat.succ_ne_self, ↓reduceIte, reduceCtorEq, List.length_cons, List.length_nil, List.take_succ_cons, List.take_zero, List.drop_succ_cons, List.drop_zero, List.append_nil, List.nil_append, List.cons_append, List.getElem?_cons_zero, List.getElem?_cons_succ, List.getElem?_nil, Nat.reduceAdd, Nat.reduceLeDiff, Nat.reduceSub, Nat.reduceMul, Nat.zero_add, and_self, and_true, true_and, List.foldl_cons, List.foldl_nil, shaped, D.isK, eqDs, D.eqv, Bool.and_true, Bool.true_and, decide_true, decide_false, beq_self_eq_true, bne_self_eq_false, List.set_cons_zero, List.set_cons_succ, Env.keep, List.map, eve, elemsD, PV.cellsOf, setCellsP, rvs, RV.get, retOf, expR, PV.argOf, PV.exp, PV.ids, PV.ids.idsL, List.all_nil, shrink, List.take_nil, Int.toNat_natCast, Int.toNat_zero, Int.natCast_nonneg, Int.le_refl, Bool.not_true, Bool.not_false, Ac.dst, Ac.gd]) <;> rfl)) : wio Γ Q env σ K (.q none none o) := io_qn hp h
theorem fr {rs : List RV} {n : Nat} {F : Out → Store → Prop} {ps : List PV} {p : PV} {σ' : Store} (h : F (.ret p) σ') (h1 : rvs env σ rs = some ps := by ((try simp only [*, evq, evBin, optInt, intsOf, PV.elems, PV.dc1, PV.dcs, dc1L, fillD, splice, evLoad, Option.map_some, Option.map_none, get_cons, val_t, val_k, val_f, Nat.reduceEqDiff, Nat.succ_ne_self, ↓reduceIte, reduceCtorEq, List.length_cons, List.length_nil, List.take_succ_cons, List.take_zero, List.drop_succ_cons, List.drop_zero, List.append_nil, List.nil_append, List.cons_append, List.getElem?_cons_zero, List.getElem?_cons_succ, List.getElem?_nil, Nat.reduceAdd, Nat.reduceLeDiff, Nat.reduceSub, Nat.reduceMul, Nat.zero_add, and_self, and_true, true_and, List.foldl_cons, List.foldl_nil, shaped, D.isK, eqDs, D.eqv, Bool.and_true, Bool.true_and, decide_true, decide_false, beq_self_eq_true, bne_self_eq_false, List.set_cons_zero, List.set_cons_succ, Env.keep, List.map, eve, elemsD, PV.cellsOf, setCellsP, rvs, RV.get, retOf, expR, PV.argOf, PV.exp, PV.ids, PV.ids.idsL, List.all_nil, shrink, List.take_nil, Int.toNat_natCast, Int.toNat_zero, Int.natCast_nonneg, Int.le_refl, Bool.not_true, Bool.not_false, Ac.dst, Ac.gd]) <;> rfl)) (h2 : retOf n σ ps = p := by ((try simp only [*, evq, evBin, optInt, intsOf, PV.elems, PV.dc1, PV.dcs, dc1L, fillD, splice, evLoad, Option.map_some, Option.map_none, get_cons, val_t, val_k, val_f, Nat.reduceEqDiff, Nat.succ_ne_self, ↓reduceIte, reduceCtorEq, List.length_cons, List.length_nil, List.take_succ_cons, List.take_zero, List.drop_succ_cons, List.drop_zero, List.append_nil, List.nil_append, List.cons_append, List.getElem?_cons_zero, List.getElem?_cons_succ, List.getElem?_nil, Nat.reduceAdd, Nat.reduceLeDiff, Nat.reduceSub, Nat.reduceMul, Nat.zero_add, and_self, and_true, true_and, List.foldl_cons, List.foldl_nil, shaped, D.isK, eqDs, D.eqv, Bool.and_true, Bool.true_and, decide_true, decide_false, beq_self_eq_true, bne_self_eq_false, List.set_cons_zero, List.set_cons_succ, Env.keep, List.map, eve, elemsD, PV.cellsOf, setCellsP, rvs, RV.get, retOf, expR, PV.argOf, PV.exp, PV.ids, PV.ids.idsL, List.all_nil, shrink, List.take_nil, Int.toNat_natCast, Int.toNat_zero, Int.natCast_nonneg, Int.le_refl, Bool.not_true, Bool.not_false, Ac.dst, Ac.gd]) <;> rfl)) (h3 : shrink n σ = σ' := by ((try simp only [*, evq, evBin, optInt, intsOf, PV.elems, PV.dc1, PV.dcs, dc1L, fillD, splice, evLoad, Option.map_some, Option.map_none, get_cons, val_t, val_k, val_f, Nat.reduceEqDiff, Nat.succ_ne_self, ↓reduceIte, reduceCtorEq, List.length_cons, List.length_nil, List.take_succ_cons, List.take_zero, List.drop_succ_cons, List.drop_zero, List.append_nil, List.nil_append, List.cons_append, List.getElem?_cons_zero, List.getElem?_cons_succ, List.getElem?_nil, Nat.reduceAdd, Nat.reduceLeDiff, Nat.reduceSub, Nat.reduceMul, Nat.zero_add, and_self, and_true, true_and, List.foldl_cons, List.foldl_nil, shaped, D.isK, eqDs, D.eqv, Bool.and_true, Bool.true_and, decide_true, decide_false, beq_self_eq_true, bne_self_eq_false, List.set_cons_zero, List.set_cons_succ, Env.keep, List.map, eve, elemsD, PV.cellsOf, setCellsP, rvs, RV.get, retOf, expR, PV.argOf, PV.exp, PV.ids, PV.ids.idsL, List.all_nil, shrink, List.take_nil, Int.toNat_natCast, Int.toNat_zero, Int.natCast_nonneg, Int.le_refl, Bool.not_true, Bool.not_false, Ac.dst, Ac.gd]) <;> rfl)) : fnPost rs n F .ret env σ := fn_ret h1 h2 h3 h
theorem fn {rs : List RV} {n : Nat} {F : Out → Store → Prop} {ps : List PV} {p : PV} {σ' : Store} (h : F (.ret p) σ') (h1 : rvs env σ rs = some ps := by ((try simp only [*, evq, evBin, optInt, intsOf, PV.elems, PV.dc1, PV.dcs, dc1L, fillD, splice, evLoad, Option.map_some, Option.map_none, get_cons, val_t, val_k, val_f, Nat.reduceEqDiff, Nat.succ_ne_self, ↓reduceIte, reduceCtorEq, List.length_cons, List.length_nil, List.take_succ_cons, List.take_zero, List.drop_succ_cons, List.drop_zero, List.append_nil, List.nil_append, List.cons_append, List.getElem?_cons_zero, List.getElem?_cons_succ, List.getElem?_nil, Nat.reduceAdd, Nat.reduceLeDiff, Nat.reduceSub, Nat.reduceMul, Nat.zero_add, and_self, and_true, true_and, List.foldl_cons, List.foldl_nil, shaped, D.isK, eqDs, D.eqv, Bool.and_true, Bool.true_and, decide_true, decide_false, beq_self_eq_true, bne_self_eq_false, List.set_cons_zero, List.set_cons_succ, Env.keep, List.map, eve, elemsD, PV.cellsOf, setCellsP, rvs, RV.get, retOf, expR, PV.argOf, PV.exp, PV.ids, PV.ids.idsL, List.all_nil, shrink, List.take_nil, Int.toNat_natCast, Int.toNat_zero, Int.natCast_nonneg, Int.le_refl, Bool.not_true, Bool.not_false, Ac.dst, Ac.gd]) <;> rfl)) (h2 : retOf n σ ps = p := by ((try simp only [*, evq, evBin, optInt, intsOf, PV.elems, PV.dc1, PV.dcs, dc1L, fillD, splice, evLoad, Option.map_some, Option.map_none, get_cons, val_t, val_k, val_f, Nat.reduceEqDiff, Nat.succ_ne_self, ↓reduceIte, reduceCtorEq, List.length_cons, List.length_nil, List.take_succ_cons, List.take_zero, List.drop_succ_cons, List.drop_zero, List.append_nil, List.nil_append, List.cons_append, List.getElem?_cons_zero, List.getElem?_cons_succ, List.getElem?_nil, Nat.reduceAdd, Nat.reduceLeDiff, Nat.reduceSub, Nat.reduceMul, Nat.zero_add, and_self, and_true, true_and, List.foldl_cons, List.foldl_nil, shaped, D.isK, eqDs, D.eqv, Bool.and_true, Bool.true_and, decide_true, decide_false, beq_self_eq_true, bne_self_eq_false, List.set_cons_zero, List.set_cons_succ, Env.keep, List.map, eve, elemsD, PV.cellsOf, setCellsP, rvs, RV.get, retOf, expR, PV.argOf, PV.exp, PV.ids, PV.ids.idsL, List.all_nil, shrink, List.take_nil, Int.toNat_natCast, Int.toNat_zero, Int.natCast_nonneg, Int.le_refl, Bool.not_true, Bool.not_false, Ac.dst, Ac.gd]) <;> rfl)) (h3 : shrink n σ = σ' := by ((try simp only [*, evq, evBin, optInt, intsOf, PV.elems, PV.dc1, PV.dcs, dc1L, fillD, splice, evLoad, Option.map_some, Option.map_none, get_cons, val_t, val_k, val_f, Nat.reduceEqDiff, Nat.succ_ne_self, ↓reduceIte, reduceCtorEq, List.length_cons, List.length_nil, List.take_succ_cons, List.take_zero, List.drop_succ_cons, List.drop_zero, List.append_nil, List.nil_append, List.cons_append, List.getElem?_cons_zero, List.getElem?_cons_succ, List.getElem?_nil, Nat.reduceAdd, Nat.reduceLeDiff, Nat.reduceSub, Nat.reduceMul, Nat.zero_add, and_self, and_true, true_and, List.foldl_cons, List.foldl_nil, shaped, D.isK, eqDs, D.eqv, Bool.and_true, Bool.true_and, decide_true, decide_false, beq_self_eq_true, bne_self_eq_false, List.set_cons_zero, List.set_cons_succ, Env.keep, List.map, eve, elemsD, PV.cellsOf, setCellsP, rvs, RV.get, retOf, expR, PV.argOf, PV.exp, PV.ids, PV.ids.idsL, List.all_nil, shrink, List.take_nil, Int.toNat_natCast, Int.toNat_zero, Int.natCast_nonneg, Int.le_refl, Bool.not_true, Bool.not_false, Ac.dst, Ac.gd]) <;> rfl)) : fnPost rs n F .normal env σ := fn_normal h1 h2 h3 h
theorem cF {f f' : FuncId} {az as' : List PV} {v : PV} {K : Out → Store → Prop} (hF : F Γ f' as' v) (h : K (.ret v) σ) (hf : f = f' := by rfl) (ha : az.map (PV.argOf σ) = as' := by ((try simp only [*, evq, evBin, optInt, intsOf, PV.elems, PV.dc1, PV.dcs, dc1L, fillD, splice, evLoad, Option.map_some, Option.map_none, get_cons, val_t, val_k, val_f, Nat.reduceEqDiff, Nat.succ_ne_self, ↓reduceIte, reduceCtorEq, List.length_cons, List.length_nil, List.take_succ_cons, List.take_zero, List.drop_succ_cons, List.drop_zero, List.append_nil, List.nil_append, List.cons_append, List.getElem?_cons_zero, List.getElem?_cons_succ, List.getElem?_nil, Nat.reduceAdd, Nat.reduceLeDiff, Nat.reduceSub, Nat.reduceMul, Nat.zero_add, and_self, and_true, true_and, List.foldl_cons, List.foldl_nil, shaped, D.isK, eqDs, D.eqv, Bool.and_true, Bool.true_and, decide_true, decide_false, beq_self_eq_true, bne_self_eq_false, List.set_cons_zero, List.set_cons_succ, Env.keep, List.map, eve, elemsD, PV.cellsOf, setCellsP, rvs, RV.get, retOf, expR, PV.argOf, PV.exp, PV.ids, PV.ids.idsL, List.all_nil, shrink, List.take_nil, Int.toNat_natCast, Int.toNat_zero, Int.natCast_nonneg, Int.le_refl, Bool.not_true, Bool.not_false, Ac.dst, Ac.gd]) <;> rfl)) (hi : PV.ids.idsL as' = [] := by ((try simp only [*, evq, evBin, optInt, intsOf, PV.elems, PV.dc1, PV.dcs, dc1L, fillD, splice, evLoad, Option.map_some, Option.map_none, get_cons, val_t, val_k, val_f, Nat.reduceEqDiff, Nat.succ_ne_self, ↓reduceIte, reduceCtorEq, List.length_cons, List.length_nil, List.take_succ_cons, List.take_zero, List.drop_succ_cons, List.drop_zero, List.append_nil, List.nil_append, List.cons_append, List.getElem?_cons_zero, List.getElem?_cons_succ, List.getElem?_nil, Nat.reduceAdd, Nat.reduceLeDiff, Nat.reduceSub, Nat.reduceMul, Nat.zero_add, and_self, and_true, true_and, List.foldl_cons, List.foldl_nil, shaped, D.isK, eqDs, D.eqv, Bool.and_true, Bool.true_and, decide_true, decide_false, beq_self_eq_true, bne_self_eq_false, List.set_cons_zero, List.set_cons_succ, Env.keep, List.map, eve, elemsD, PV.cellsOf, setCellsP, rvs, RV.get, retOf, expR, PV.argOf, PV.exp, PV.ids, PV.ids.idsL, List.all_nil, shrink, List.take_nil, Int.toNat_natCast, Int.toNat_zero, Int.natCast_nonneg, Int.le_refl, Bool.not_true, Bool.not_false, Ac.dst, Ac.gd]) <;> rfl)) (hv : v.ids = [] := by ((try simp only [*, evq, evBin, optInt, intsOf, PV.elems, PV.dc1, PV.dcs, dc1L, fillD, splice, evLoad, Option.map_some, Option.map_none, get_cons, val_t, val_k, val_f, Nat.reduceEqDiff, Nat.succ_ne_self, ↓reduceIte, reduceCtorEq, List.length_cons, List.length_nil, List.take_succ_cons, List.take_zero, List.drop_succ_cons, List.drop_zero, List.append_nil, List.nil_append, List.cons_append, List.getElem?_cons_zero, List.getElem?_cons_succ, List.getElem?_nil, Nat.reduceAdd, Nat.reduceLeDiff, Nat.reduceSub, Nat.reduceMul, Nat.zero_add, and_self, and_true, true_and, List.foldl_cons, List.foldl_nil, shaped, D.isK, eqDs, D.eqv, Bool.and_true, Bool.true_and, decide_true, decide_false, beq_self_eq_true, bne_self_eq_false, List.set_cons_zero, List.set_cons_succ, Env.keep, List.map, eve, elemsD, PV.cellsOf, setCellsP, rvs, RV.get, retOf, expR, PV.argOf, PV.exp, PV.ids, PV.ids.idsL, List.all_nil, shrink, List.take_nil, Int.toNat_natCast, Int.toNat_zero, Int.natCast_nonneg, Int.le_refl, Bool.not_true, Bool.not_false, Ac.dst, Ac.gd]) <;> rfl)) : wcall Γ f az σ K := by subst hf; exact call_F hF ha hi hv h
/-- A value, and what becomes of the part of the store that is handed on. -/
def FT (Γ : Cfg) (f : FuncId) (az : List PV) (σ : Store) (v : PV) (σ' : Store) : Prop := T Γ f az σ fun o s => o = .ret v ∧ s = σ'
/-- A call that lays a row of its own. -/
theorem cR {f f' : FuncId} {az as' : List PV} {ty : TypeId} {cs : List D} {K : Out → Store → Prop} (hF : RowF Γ f' as' ty cs) (h : K (.ret (.sbox σ.length cs.length)) (σ ++ [.box ty (cs.map .d)])) (hf : f = f' := by rfl)
    (ha : az.map (PV.argOf σ) = as' := by ((try simp [PV.argOf]) <;> rfl)) (hi : PV.ids.idsL as' = [] := by (simp [PV.ids, PV.ids.idsL])) : wcall Γ f az σ K := by
  subst hf ha
  exact .inr ⟨ty, cs, hi, hF, h⟩
theorem cT {f f' : FuncId} {az as' : List PV} {π : List Nat} {σc σc' σ'' : Store} {v v' : PV} {K : Out → Store → Prop} (hF : FT Γ f' as' σc v σc') (h : K (.ret v') σ'') (hf : f = f' := by rfl)
    (hπ : piOf σ (az.map (PV.argOf σ)) = π := by ((try simp [piOf, reach, closedB, nodupB, subS, updL, outOf, Ent.ren, Ent.ids, PV.ids, PV.ids.idsL, PV.ren, PV.ren.renL, PV.argOf, List.idxOf, List.findIdx, List.findIdx.go]) <;> rfl)) (hcl : closedB σ π (az.map (PV.argOf σ)) = true := by (simp [piOf, reach, closedB, nodupB, subS, updL, outOf, Ent.ren, Ent.ids, PV.ids, PV.ids.idsL, PV.ren, PV.ren.renL, PV.argOf, List.idxOf, List.findIdx, List.findIdx.go])) (ha : (az.map (PV.argOf σ)).map (PV.ren fun j => π.idxOf j) = as' := by rfl) (hs : subS σ π = σc := by rfl)
    (hv : v.ren (outOf π) = v' := by ((try simp [piOf, reach, closedB, nodupB, subS, updL, outOf, Ent.ren, Ent.ids, PV.ids, PV.ids.idsL, PV.ren, PV.ren.renL, PV.argOf, List.idxOf, List.findIdx, List.findIdx.go]) <;> rfl)) (hu : updL σ π (σc'.map (Ent.ren (outOf π))) = σ'' := by ((try simp [piOf, reach, closedB, nodupB, subS, updL, outOf, Ent.ren, Ent.ids, PV.ids, PV.ids.idsL, PV.ren, PV.ren.renL, PV.argOf, List.idxOf, List.findIdx, List.findIdx.go]) <;> rfl)) : wcall Γ f az σ K := by
  subst hf hπ hv hu
  refine .inl ⟨hcl, ?_⟩
  rw [ha, hs]
  refine T.mono hF fun o s h' => ?_
  obtain ⟨rfl, rfl⟩ := h'
  exact h
theorem bm {i j : Nat} (h : Q (.exit j) env σ) (hn : Nat.beq j i = false := by rfl) : Ex.inBlock i Q (.exit j) env σ := block_miss hn h
theorem dbc {L : List (Nat × List Nat)} {i : Nat} {ws : List Nat} {io : Ac} {t : DT} {r : DB} (h : wio Γ Q env σ (fun e s => wdt Γ Q t L e s) io) (hr : wdb Γ Q r L env σ)
    (ha : apartL ws (touchOf env σ io) L = true := by simp [apartL, touchOf, footOf, QOp.foot, EOp.touch, piOf, reach, PV.ids, PV.ids.idsL, PV.argOf, val_t, val_k, val_f, get_cons]) : wdb Γ Q (.cons i ws io t r) L env σ := db_cons ha h hr
theorem dbm {L : List (Nat × List Nat)} {b : DB} (h : wdb Γ Q b L env σ) : wdb Γ Q b L env σ := h
variable {A B C : Prop}
section
variable {p : Prop} [Decidable p]
theorem gpt (h : A) (hp : p := by omega) : guardK (.d (.bool (decide p))) true A B C := gk_pt hp h
theorem gqt (h : B) (hp : ¬p := by omega) : guardK (.d (.bool (decide p))) true A B C := gk_qt hp h
theorem gpf (h : B) (hp : p := by omega) : guardK (.d (.bool (decide p))) false A B C := gk_pf hp h
theorem gqf (h : A) (hp : ¬p := by omega) : guardK (.d (.bool (decide p))) false A B C := gk_qf hp h
end
variable {a b : Int}
theorem get' (h : A) (hp : a = b := by omega) : guardK (.d (.bool (a == b))) true A B C := gk_et hp h
theorem gut (h : B) (hp : a ≠ b := by omega) : guardK (.d (.bool (a == b))) true A B C := gk_ut hp h
theorem gef (h : B) (hp : a = b := by omega) : guardK (.d (.bool (a == b))) false A B C := gk_ef hp h
theorem guf (h : A) (hp : a ≠ b := by omega) : guardK (.d (.bool (a == b))) false A B C := gk_uf hp h
end
end Go.Plane
end
section
set_option linter.unusedVariables false
namespace Go.Plane
open Go
/-! ### The steps az one -/
structure Hid' (G : Prop) : Prop where
  out : G
/-- One step: what is left is a goal. -/
theorem dr {G G' : Prop} (h : G') (hs : Hid' G' → G := by intro h; (first | ((with_reducible refine wom ?_); (first | (with_reducible refine ops_nil ?_) | ((refine ow 1 rfl ?_); (first | refine oq0 ?_ | refine oq1 ?_ | refine oq2 ?_ | refine oq3 ?_ | refine oq4 ?_ | refine oq5 ?_ | refine oq6 ?_ | refine oq7 ?_ | refine oq8 ?_)) | ((refine ow 7 rfl ?_); refine og ?_) | ((refine ow 2 rfl ?_); refine oa ?_) | ((refine ow 2 rfl ?_); refine oe ?_) | ((refine ow 4 rfl ?_); refine oc ?_) | ((refine ow 5 rfl ?_); refine ov ?_) | ((refine ow 3 rfl ?_); refine oen ?_) | ((refine ow 6 rfl ?_); refine oqn ?_) | ((refine ow 9 rfl ?_); refine oo ?_) | ((refine ow 10 rfl ?_); refine oob ?_))) | (with_reducible first | refine then_normal ?_ | refine wic_seq ?_ | refine wic_ops ?_ | refine block_normal ?_ | refine then_ret ?_ | refine then_exit ?_ | refine then_panic ?_ | refine block_ret ?_ | refine block_panic ?_ | refine block_hit ?_ | refine wic_block ?_ | refine wic_exit ?_ | refine wic_skip ?_ | refine wic_ret ?_ | refine wic_scope ?_ | refine wic_draw ?_ | refine dt_q ?_ | refine dt_done ?_ | refine dt_br ?_ | refine out_ret ?_ | refine out_retn ?_ | refine out_panic ?_) | ((with_reducible refine wim ?_); (first | ((refine cw 1 rfl ?_); refine okp ?_) | ((refine cw 2 rfl ?_); refine ocg ?_) | ((refine cw 3 rfl ?_); refine olp ?_))) | ((with_reducible refine gkm ?_); (with_reducible first | refine gk_bne ?_ | refine gk_lbne ?_ | skip); (with_reducible first | refine gk_nt ?_ | refine gk_nf ?_ | skip); (first | (with_reducible first | refine gk_off ?_ | refine gk_tt ?_ | refine gk_ft ?_ | refine gk_tf ?_ | refine gk_ff ?_) | refine gpt ?_ | refine gqt ?_ | refine gpf ?_ | refine gqf ?_ | refine get' ?_ | refine gut ?_ | refine gef ?_ | refine guf ?_); try dsimp only [Ac.bare, Ac.dst, Env.putO, Env.put, Bool.not_true, Bool.not_false]) | ((with_reducible refine iom ?_); (first | ((refine iw 1 rfl ?_); (first | refine iq0 ?_ | refine iq1 ?_ | refine iq2 ?_ | refine iq3 ?_ | refine iq4 ?_ | refine iq5 ?_ | refine iq6 ?_ | refine iq7 ?_ | refine iq8 ?_)) | ((refine iw 7 rfl ?_); refine ig ?_) | ((refine iw 2 rfl ?_); refine ia ?_) | ((refine iw 2 rfl ?_); refine ie ?_) | ((refine iw 4 rfl ?_); refine ic ?_) | ((refine iw 5 rfl ?_); refine iv ?_) | ((refine iw 3 rfl ?_); refine ien ?_) | ((refine iw 6 rfl ?_); refine iqn ?_))) | ((with_reducible refine fnm ?_); (first | refine fr ?_ | refine fn ?_)) | ((with_reducible refine bmm ?_); refine bm ?_)); exact h.out) : G := hs ⟨h⟩
/-- A test that nothing decides: two goals. -/
theorem ds {G A B : Prop} {X Y : Prop} (h1 : X → A) (h2 : Y → B) (hs : Hid' (X → A) → Hid' (Y → B) → G := by intro h1 h2; ((with_reducible refine gkm ?_); (with_reducible first | refine gk_bne ?_ | refine gk_lbne ?_ | skip); (with_reducible first | refine gk_nt ?_ | refine gk_nf ?_ | skip); (with_reducible first | refine gk_zt ?_ ?_ | refine gk_zf ?_ ?_ | refine gk_lt ?_ ?_ | refine gk_lf ?_ ?_ | refine gk_dt ?_ ?_ | refine gk_df ?_ ?_ | refine gk_xt ?_ ?_ | refine gk_xf ?_ ?_)); (intro hx; (try dsimp only [Ac.bare, Ac.dst, Env.putO, Env.put, Bool.not_true, Bool.not_false]); exact h1.out hx); (intro hx; (try dsimp only [Ac.bare, Ac.dst, Env.putO, Env.put, Bool.not_true, Bool.not_false]); exact h2.out hx)) : G := hs ⟨h1⟩ ⟨h2⟩
end Go.Plane
end
section
set_option linter.unusedSimpArgs false
set_option maxRecDepth 100000
namespace Go.Plane
open Go Go.Proofs
theorem shaped_int {k : IntKind} {ks : List DK} {cs : List D} (h : shaped (.int k :: ks) cs = true) : ∃ n cs', cs = .int k n :: cs' ∧ shaped ks cs' = true := by
  cases cs with
  | nil => cases h
  | cons d cs =>
    simp only [shaped, Bool.and_eq_true] at h
    cases d with
    | int k' n =>
      have : k' = k := by simpa [D.isK] using h.1
      subst this
      exact ⟨n, cs, rfl, h.2⟩
    | bool b => exact absurd h.1 (by simp [D.isK])
    | str s => exact absurd h.1 (by simp [D.isK])
    | slice xs => exact absurd h.1 (by simp [D.isK])
theorem shaped_str {ks : List DK} {cs : List D} (h : shaped (.str :: ks) cs = true) : ∃ s cs', cs = .str s :: cs' ∧ shaped ks cs' = true := by
  cases cs with
  | nil => cases h
  | cons d cs =>
    simp only [shaped, Bool.and_eq_true] at h
    cases d with
    | str s => exact ⟨s, cs, rfl, h.2⟩
    | bool b => exact absurd h.1 (by simp [D.isK])
    | int k n => exact absurd h.1 (by simp [D.isK])
    | slice xs => exact absurd h.1 (by simp [D.isK])
theorem shaped_nil {cs : List D} (h : shaped [] cs = true) : cs = [] := by cases cs <;> first | rfl | cases h
theorem repds_cons {M : Mem} {vs : List Value} {d : D} {cs : List D} (h : RepDs M vs (d :: cs)) : ∃ v vs', vs = v :: vs' ∧ RepD M v d ∧ RepDs M vs' cs := by
  cases vs with
  | nil => exact absurd h.1 (by simp)
  | cons v vs' => exact ⟨v, vs', rfl, h.2 0 v d rfl rfl, Nat.succ.inj h.1, fun j u q hu hq => h.2 (j + 1) u q hu hq⟩
theorem repds_nil {M : Mem} {vs : List Value} (h : RepDs M vs []) : vs = [] := List.eq_nil_of_length_eq_zero h.1

theorem stood23 : Tryz.prog.stoodInHeld 28 = false := by kernel_rfl
theorem stood57 : Tryz.prog.stoodInHeld 49 = false := by kernel_rfl
theorem guard23 : Tryz.prog.eqGuardType Tryz.prog.depth 28 = false := by kernel_rfl
theorem guard57 : Tryz.prog.eqGuardType Tryz.prog.depth 49 = false := by kernel_rfl
theorem pk3 : Tryz.prog.plainKey 3 = true := by kernel_rfl
theorem pk9 : Tryz.prog.plainKey 9 = true := by kernel_rfl
theorem part3 {xs : Array Value} {off : Nat} {k : IntKind} {n : Int} (h : xs[off]? = some (.int k n)) (w : World) : (part 3 xs off).run Tryz.prog w = .ok (.int k n) w := run_part_plain w pk3 h
theorem part9 {xs : Array Value} {off : Nat} {s : ByteArray} (h : xs[off]? = some (.string s)) (w : World) : (part 9 xs off).run Tryz.prog w = .ok (.string s) w := run_part_plain w pk9 h
theorem part23 (xs : Array Value) (off : Nat) (w : World) : (part 28 xs off).run Tryz.prog w = .ok (.agg (xs.extract off (off + 2))) w := by
  simp only [part, Sem.run_bind, Tryz.isAgg28, Result.andThen_ok, if_true, Tryz.sizeOf28, Sem.run_pure]
theorem eq23 (M : Mem) (vs us : List Value) (cs ds : List D) (w : World) (h1 : RepDs M vs cs) (h2 : RepDs M us ds) (s1 : shaped [.int .i64, .int .i64] cs = true) (s2 : shaped [.int .i64, .int .i64] ds = true) :
  (∀ (x y : Operand), (eqGuard .eql 28 x y (.agg vs.toArray) (.agg us.toArray)).run Tryz.prog w = .ok () w ∧ (eqGuard .neq 28 x y (.agg vs.toArray) (.agg us.toArray)).run Tryz.prog w = .ok () w) ∧
  (Op.equal 28 (.agg vs.toArray) (.agg us.toArray)).run Tryz.prog w = .ok (eqDs cs ds) w := by
  refine ⟨fun x y => ⟨run_eqGuard_agg _ _ _ _ _ _ _ guard23, run_eqGuard_agg _ _ _ _ _ _ _ guard23⟩, ?_⟩
  obtain ⟨a, _, rfl, s3⟩ := shaped_int s1
  obtain ⟨b, _, rfl, s4⟩ := shaped_int s3
  obtain rfl := shaped_nil s4
  obtain ⟨c, _, rfl, s5⟩ := shaped_int s2
  obtain ⟨d, _, rfl, s6⟩ := shaped_int s5
  obtain rfl := shaped_nil s6
  obtain ⟨v1, _, rfl, r1, h3⟩ := repds_cons h1
  obtain ⟨v2, _, rfl, r2, h4⟩ := repds_cons h3
  obtain rfl := repds_nil h4
  obtain ⟨u1, _, rfl, q1, h5⟩ := repds_cons h2
  obtain ⟨u2, _, rfl, q2, h6⟩ := repds_cons h5
  obtain rfl := repds_nil h6
  obtain rfl := r1.int_inv
  obtain rfl := r2.int_inv
  obtain rfl := q1.int_inv
  obtain rfl := q2.int_inv
  simp only [Op.equal, Op.maxDepth]
  rw [show (10000 : Nat) = 9998 + 1 + 1 from rfl, run_equalIn_agg _ _ _ _ _ (by rw [Program.fieldsOf, Tryz.underlying28]) stood23]
  have e0 : (#[Value.int IntKind.i64 a, Value.int IntKind.i64 b] : Array Value)[0]? = some (.int .i64 a) := rfl
  have e1 : (#[Value.int IntKind.i64 a, Value.int IntKind.i64 b] : Array Value)[1]? = some (.int .i64 b) := rfl
  have f0 : (#[Value.int IntKind.i64 c, Value.int IntKind.i64 d] : Array Value)[0]? = some (.int .i64 c) := rfl
  have f1 : (#[Value.int IntKind.i64 c, Value.int IntKind.i64 d] : Array Value)[1]? = some (.int .i64 d) := rfl
  simp only [Program.fieldsOf, Tryz.underlying28, Op.eqFields, Sem.run_bind, Sem.run_ite, part3 e0, part3 e1, part3 f0, part3 f1, Result.andThen_ok, run_equalIn_int _ _ _ _ _ _ _ Tryz.underlying3, eqDs, D.eqv]
  cases a == c <;> cases b == d <;> simp

theorem eqrun23 (d' : Nat) (a b c d : Int) (w : World) : (Op.equalIn (d' + 1 + 1) 28 (.agg #[.int .i64 a, .int .i64 b]) (.agg #[.int .i64 c, .int .i64 d])).run Tryz.prog w = .ok (a == c && b == d) w := by
  rw [run_equalIn_agg _ _ _ _ _ (by rw [Program.fieldsOf, Tryz.underlying28]) stood23]
  have e0 : (#[Value.int IntKind.i64 a, Value.int IntKind.i64 b] : Array Value)[0]? = some (.int .i64 a) := rfl
  have e1 : (#[Value.int IntKind.i64 a, Value.int IntKind.i64 b] : Array Value)[1]? = some (.int .i64 b) := rfl
  have f0 : (#[Value.int IntKind.i64 c, Value.int IntKind.i64 d] : Array Value)[0]? = some (.int .i64 c) := rfl
  have f1 : (#[Value.int IntKind.i64 c, Value.int IntKind.i64 d] : Array Value)[1]? = some (.int .i64 d) := rfl
  simp only [Program.fieldsOf, Tryz.underlying28, Op.eqFields, Sem.run_bind, Sem.run_ite, part3 e0, part3 e1, part3 f0, part3 f1, Result.andThen_ok, run_equalIn_int _ _ _ _ _ _ _ Tryz.underlying3]
  cases a == c <;> cases b == d <;> simp
theorem bytes_beq {s t : ByteArray} : (s.toList == t.toList) = (s.data.toList == t.data.toList) := by rw [ByteArray.toList_eq, ByteArray.toList_eq]
theorem eq57 (M : Mem) (vs us : List Value) (cs ds : List D) (w : World) (h1 : RepDs M vs cs) (h2 : RepDs M us ds) (s1 : shaped [.int .i64, .str, .int .i64, .int .i64] cs = true) (s2 : shaped [.int .i64, .str, .int .i64, .int .i64] ds = true) :
  (∀ (x y : Operand), (eqGuard .eql 49 x y (.agg vs.toArray) (.agg us.toArray)).run Tryz.prog w = .ok () w ∧ (eqGuard .neq 49 x y (.agg vs.toArray) (.agg us.toArray)).run Tryz.prog w = .ok () w) ∧
  (Op.equal 49 (.agg vs.toArray) (.agg us.toArray)).run Tryz.prog w = .ok (eqDs cs ds) w := by
  refine ⟨fun x y => ⟨run_eqGuard_agg _ _ _ _ _ _ _ guard57, run_eqGuard_agg _ _ _ _ _ _ _ guard57⟩, ?_⟩
  obtain ⟨a1, _, rfl, s3⟩ := shaped_int s1
  obtain ⟨a2, _, rfl, s4⟩ := shaped_str s3
  obtain ⟨a3, _, rfl, s5⟩ := shaped_int s4
  obtain ⟨a4, _, rfl, s6⟩ := shaped_int s5
  obtain rfl := shaped_nil s6
  obtain ⟨b1, _, rfl, s3⟩ := shaped_int s2
  obtain ⟨b2, _, rfl, s4⟩ := shaped_str s3
  obtain ⟨b3, _, rfl, s5⟩ := shaped_int s4
  obtain ⟨b4, _, rfl, s6⟩ := shaped_int s5
  obtain rfl := shaped_nil s6
  obtain ⟨v1, _, rfl, r1, h3⟩ := repds_cons h1
  obtain ⟨v2, _, rfl, r2, h4⟩ := repds_cons h3
  obtain ⟨v3, _, rfl, r3, h5⟩ := repds_cons h4
  obtain ⟨v4, _, rfl, r4, h6⟩ := repds_cons h5
  obtain rfl := repds_nil h6
  obtain ⟨u1, _, rfl, q1, h3⟩ := repds_cons h2
  obtain ⟨u2, _, rfl, q2, h4⟩ := repds_cons h3
  obtain ⟨u3, _, rfl, q3, h5⟩ := repds_cons h4
  obtain ⟨u4, _, rfl, q4, h6⟩ := repds_cons h5
  obtain rfl := repds_nil h6
  obtain rfl := r1.int_inv
  obtain ⟨t2, rfl, rfl, _⟩ := r2.str_inv
  obtain rfl := r3.int_inv
  obtain rfl := r4.int_inv
  obtain rfl := q1.int_inv
  obtain ⟨x2, rfl, rfl, _⟩ := q2.str_inv
  obtain rfl := q3.int_inv
  obtain rfl := q4.int_inv
  simp only [Op.equal, Op.maxDepth]
  rw [show (10000 : Nat) = 9997 + 1 + 1 + 1 from rfl, run_equalIn_agg _ _ _ _ _ (by rw [Program.fieldsOf, Tryz.underlying49]) stood57]
  have e0 : (#[Value.int IntKind.i64 a1, .string t2, .int .i64 a3, .int .i64 a4] : Array Value)[0]? = some (.int .i64 a1) := rfl
  have e1 : (#[Value.int IntKind.i64 a1, .string t2, .int .i64 a3, .int .i64 a4] : Array Value)[1]? = some (.string t2) := rfl
  have f0 : (#[Value.int IntKind.i64 b1, .string x2, .int .i64 b3, .int .i64 b4] : Array Value)[0]? = some (.int .i64 b1) := rfl
  have f1 : (#[Value.int IntKind.i64 b1, .string x2, .int .i64 b3, .int .i64 b4] : Array Value)[1]? = some (.string x2) := rfl
  have e2 : (#[Value.int IntKind.i64 a1, .string t2, .int .i64 a3, .int .i64 a4] : Array Value).extract 2 (2 + 2) = #[.int .i64 a3, .int .i64 a4] := rfl
  have f2 : (#[Value.int IntKind.i64 b1, .string x2, .int .i64 b3, .int .i64 b4] : Array Value).extract 2 (2 + 2) = #[.int .i64 b3, .int .i64 b4] := rfl
  simp only [Program.fieldsOf, Tryz.underlying49, Op.eqFields, Sem.run_bind, Sem.run_ite, part3 e0, part9 e1, part3 f0, part9 f1, part23, e2, f2, Result.andThen_ok, run_equalIn_int _ _ _ _ _ _ _ Tryz.underlying3,
    run_equalIn_string _ _ _ _ _ Tryz.underlying9, eqrun23, eqDs, D.eqv, bytes_beq]
  cases a1 == b1 <;> cases t2.data.toList == x2.data.toList <;> cases a3 == b3 <;> cases a4 == b4 <;> simp

def asciiAt (o : Nat) : Option Value := (Lib.asciiSpaceTab[o]?).map fun n => .int .u8 n
noncomputable def Γz : Cfg where
  P := Tryz.prog
  E := [(28, [.int .i64, .int .i64]), (49, [.int .i64, .str, .int .i64, .int .i64])]
  eq := fun t ks h => by
    simp only [List.mem_cons, List.not_mem_nil, or_false, Prod.mk.injEq] at h
    rcases h with ⟨rfl, rfl⟩ | ⟨rfl, rfl⟩
    · exact fun M vs us cs ds w h1 h2 s1 s2 => eq23 M vs us cs ds w h1 h2 s1 s2
    · exact fun M vs us cs ds w h1 h2 s1 s2 => eq57 M vs us cs ds w h1 h2 s1 s2
  GL := fun M => (∃ m, M 1 0 = some (.int .i64 m)) ∧ ∀ o v, asciiAt o = some v → M 0 o = some v
  mono := fun M M' h ⟨⟨m, h1⟩, h2⟩ => ⟨⟨m, h _ _ _ h1⟩, fun o v hv => h _ _ _ (h2 o v hv)⟩
  GW := fun w => ∃ e, w.shape? 0 = some (e, 256)
  gw := fun w w' h ⟨e, h1⟩ => ⟨e, h _ _ h1⟩
theorem gAscii : Tryz.prog.globalNamed "strings.asciiSpace" = some 0 := by kernel_rfl
theorem tab_of {M : Mem} {w : World} (h : Holds Γz M w) : Lib.TabIs Tryz.prog w "strings.asciiSpace" .u8 Lib.asciiSpaceTab := by
  obtain ⟨⟨_, h1⟩, ⟨e, h2⟩, h3⟩ := h
  unfold Lib.TabIs World.var?
  rw [gAscii]
  simp only [Option.bind_some]
  unfold World.shape? at h2
  split at h2
  case h_2 => cases h2
  rename_i c el fr hc
  simp only [hc, Option.some.injEq]
  have hsz : c.size = 256 := by simpa using (Prod.mk.inj (Option.some.inj h2)).2
  apply Array.ext'
  apply List.ext_getElem?
  intro o
  by_cases ho : o < 256
  · have ht : o < Lib.asciiSpaceTab.length := by rw [Lib.asciiSpaceTab_length]; exact ho
    have := h3 0 o _ (h1 o (.int .u8 Lib.asciiSpaceTab[o]) (by simp [asciiAt, ht]))
    simp only [World.cell?, hc] at this
    simp at this
    simp [this, ht]
  · rw [List.getElem?_eq_none (by simp; omega), List.getElem?_eq_none (by simp [Lib.asciiSpaceTab_length]; omega)]
end Go.Plane
end

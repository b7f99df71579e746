/- A part of the proof: the calculus over pure values, contracts of functions, and plain lemmas. -/
import Derived.Test.YtccejlonkoafgaaGreatDoorW8
import Derived.Test.YtccejlonkoafgaaGreatDoorW6
section
set_option linter.unnecessarySimpa false
set_option linter.unusedVariables false
set_option linter.unusedSimpArgs false
namespace Go.Plane
open Go Go.Proofs
/-! ### A text read as a whole -/
theorem headLn_rest : ∀ v : List UInt8, ∃ r, v = headLn v ++ r ∧ ∀ c, r.head? = some c → c = 10
  | [] => ⟨[], by simp [headLn, splitL], by simp⟩
  | b :: v => by
    by_cases hb : b = 10
    · subst hb
      exact ⟨10 :: v, by simp [headLn, splitL_cons_eq], by simp⟩
    · obtain ⟨r, h1, h2⟩ := headLn_rest v
      refine ⟨r, ?_, h2⟩
      obtain ⟨x, q, e1, e2⟩ := splitL_cons_ne hb v
      have h3 : headLn (b :: v) = b :: x := by unfold headLn; rw [e2]; rfl
      have h4 : headLn v = x := by unfold headLn; rw [e1]; rfl
      rw [h3, List.cons_append, ← h4, ← h1]
theorem headLn_cons {b : UInt8} (hb : b ≠ 10) (v : List UInt8) : headLn (b :: v) = b :: headLn v := by
  obtain ⟨x, q, e1, e2⟩ := splitL_cons_ne hb v
  unfold headLn
  rw [e1, e2]
  rfl
theorem headLn_lf (v : List UInt8) : headLn (10 :: v) = [] := by simp [headLn, splitL_cons_eq]
theorem headLn_app {w : List UInt8} (hw : 10 ∉ w) (v : List UInt8) : headLn (w ++ v) = w ++ headLn v := by
  induction w with
  | nil => rfl
  | cons b w ih =>
    simp only [List.mem_cons, not_or] at hw
    rw [List.cons_append, headLn_cons (fun h => hw.1 h.symm), ih hw.2]
    rfl
theorem lines_app {u w : List UInt8} (hw : 10 ∉ w) : headLns (u ++ w) = headLns u ∧ lastLn (u ++ w) = lastLn u ++ w := by
  have h : splitL 10 (u ++ w) = headLns u ++ [lastLn u ++ w] := by
    rw [splitL_append, splitL_one (by simp only [List.mem_append, not_or]; exact ⟨lastLn_no u, hw⟩)]
  have h2 := splitL_ends (u ++ w)
  rw [h] at h2
  have h3 := List.append_inj' h2 rfl
  exact ⟨h3.1.symm, (List.cons.inj h3.2).1.symm⟩
theorem lines_lf (u : List UInt8) : headLns (u ++ [10]) = headLns u ++ [lastLn u] ∧ lastLn (u ++ [10]) = [] := by
  have h : splitL 10 (u ++ [10]) = headLns u ++ [lastLn u] ++ [[]] := by
    have := splitL_LF u []
    rw [List.append_nil] at this
    rw [this, splitL_ends u]
    simp [splitL]
  have h2 := splitL_ends (u ++ [10])
  rw [h] at h2
  have h3 := List.append_inj' h2 rfl
  exact ⟨h3.1.symm, (List.cons.inj h3.2).1.symm⟩
theorem prefix_headLn {x v : List UInt8} (hx : 10 ∉ x) : x.isPrefixOf v = x.isPrefixOf (headLn v) := by
  obtain ⟨r, h1, h2⟩ := headLn_rest v
  rw [Bool.eq_iff_iff, List.isPrefixOf_iff_prefix, List.isPrefixOf_iff_prefix]
  constructor
  · intro h
    by_cases hl : x.length ≤ (headLn v).length
    · exact List.prefix_of_prefix_length_le h ⟨r, h1.symm⟩ hl
    · exfalso
      obtain ⟨w, hw⟩ := h
      have hr : r ≠ [] := by
        rintro rfl
        have := congrArg List.length h1
        have := congrArg List.length hw
        simp only [List.length_append, List.length_nil] at *
        omega
      cases r with
      | nil => exact hr rfl
      | cons c r =>
        have hc := h2 c rfl
        subst hc
        have h3 : x[(headLn v).length]? = some 10 := by
          have h4 : (x ++ w)[(headLn v).length]? = some 10 := by
            rw [hw]
            have : ∀ (a b : List UInt8), v = a ++ 10 :: b → v[a.length]? = some 10 := by rintro a b rfl; simp
            exact this _ _ h1
          rwa [List.getElem?_append_left (by omega)] at h4
        exact hx (List.mem_of_getElem? h3)
  · exact fun h => h.trans ⟨r, h1.symm⟩
theorem signM_headLn (v : List UInt8) : signM v = signM (headLn v) := by
  have key : ∀ (L : List (List UInt8)), (∀ z ∈ L, 10 ∉ z) → L.find? (fun z => z.isPrefixOf v) = L.find? (fun z => z.isPrefixOf (headLn v)) := by
    intro L
    induction L with
    | nil => intro _; rfl
    | cons z L ih =>
      intro h
      have hz := h z (List.mem_cons_self ..)
      have ih := ih (fun w hw => h w (List.mem_cons_of_mem _ hw))
      rw [List.find?_cons, List.find?_cons, prefix_headLn hz, ih]
  unfold signM
  rw [key signs (fun z hz hc => (sign_bytes hz 10 hc).2 rfl)]
theorem takeWhile_headLn (v : List UInt8) : v.takeWhile isPart = (headLn v).takeWhile isPart := by
  obtain ⟨r, h1, h2⟩ := headLn_rest v
  conv => lhs; rw [h1]
  generalize headLn v = x at *
  induction x with
  | nil =>
    cases r with
    | nil => rfl
    | cons c r =>
      have := h2 c rfl
      subst this
      rw [List.nil_append, List.takeWhile_cons, if_neg (by decide)]
      rfl
  | cons b x ih =>
    rw [List.cons_append, List.takeWhile_cons, List.takeWhile_cons]
    split
    · congr 1
      have : ∀ (y : List UInt8), (y ++ r).takeWhile isPart = y.takeWhile isPart := by
        intro y
        induction y with
        | nil =>
          cases r with
          | nil => rfl
          | cons c r =>
            have := h2 c rfl
            subst this
            rw [List.nil_append, List.takeWhile_cons, if_neg (by decide)]
            rfl
        | cons b y ih => rw [List.cons_append, List.takeWhile_cons, List.takeWhile_cons, ih]
      exact this x
    · rfl

/-- Tokens, comments, and the first error: its place and what it is. -/
def lexedR (s : List UInt8) : List Tok × List Tok × Int × Int × Int := match firstErr 1 (splitL 10 s) with
  | some e => ([], [], e.1, e.2.1, e.2.2)
  | none => (allToks isTok 1 (splitL 10 s), allToks isNote 1 (splitL 10 s), 0, 0, 0)
/-- What has been read: what stands ahead, what is left, the tokens, the comments. -/
def ST (s u v : List UInt8) (L N : List Tok) : Prop :=
  s = u ++ v ∧ firstErr 1 (headLns u) = none ∧ L.length ≤ u.length ∧ N.length ≤ u.length ∧ ∃ done, errOf done = none ∧ scan 0 (lastLn u ++ headLn v) = done ++ scan (lastLn u).length (headLn v) ∧
    L = allToks isTok 1 (headLns u) ++ keptOf isTok (1 + ((headLns u).length : Int)) done ∧ N = allToks isNote 1 (headLns u) ++ keptOf isNote (1 + ((headLns u).length : Int)) done
theorem ST_zero (s : List UInt8) : ST s [] s [] [] :=
  ⟨rfl, rfl, by simp, by simp, [], rfl, by simp [lastLn, splitL], by simp [headLns, splitL, allToks, keptOf], by simp [headLns, splitL, allToks, keptOf]⟩
theorem headLns_cons {s u v : List UInt8} (h : s = u ++ v) : splitL 10 s = headLns u ++ ((lastLn u ++ headLn v) :: tailLns v) := by
  rw [h, splitL_append]
  congr 1
  rw [splitL_behind v (lastLn u), splitL_one (by simp only [List.mem_append, not_or]; exact ⟨lastLn_no u, headLn_no v⟩)]
  rfl
theorem ST_lf {s u v : List UInt8} {L N : List Tok} (h : ST s u (10 :: v) L N) : ST s (u ++ [10]) v L N := by
  obtain ⟨h1, h2, h3, h4, done, h5, h6, h7, h8⟩ := h
  obtain ⟨e1, e2⟩ := lines_lf u
  rw [headLn_lf, scan_nil', List.append_nil, List.append_nil] at h6
  have he : errOf (scanM (lastLn u)) = none := by rw [scanM_eq, h6]; exact h5
  refine ⟨by rw [h1]; simp, ?_, by simp; omega, by simp; omega, [], rfl, by rw [e2]; simp, ?_, ?_⟩
  · rw [e1, firstErr_append, h2]
    simp only [firstErr, he]
    rfl
  · rw [e1, allToks_append, h7]
    simp [allToks, scanM_eq, h6, keptOf]
  · rw [e1, allToks_append, h8]
    simp [allToks, scanM_eq, h6, keptOf]
theorem ST_blank {s u v : List UInt8} {L N : List Tok} (h : ST s u (32 :: v) L N) : ST s (u ++ [32]) v L N := by
  obtain ⟨h1, h2, h3, h4, done, h5, h6, h7, h8⟩ := h
  obtain ⟨e1, e2⟩ := lines_app (u := u) (w := [32]) (by decide)
  rw [headLn_cons (by decide), scan_blank] at h6
  refine ⟨by rw [h1]; simp, by rw [e1]; exact h2, by simp; omega, by simp; omega, done, h5, ?_, by rw [e1]; exact h7, by rw [e1]; exact h8⟩
  rw [e2, List.append_assoc, List.length_append]
  exact h6
theorem keptOf_append (want : Int → Bool) (l : Int) (a b : List Pc) : keptOf want l (a ++ b) = keptOf want l a ++ keptOf want l b := by
  simp [keptOf]
theorem errOf_append {a b : List Pc} (h : errOf a = none) : errOf (a ++ b) = errOf b := by
  unfold errOf at *
  rw [List.find?_append, h, Option.none_or]
/-- Behind a piece of no error. -/
theorem ST_piece {s u v : List UInt8} {b : UInt8} {L N : List Tok} (h : ST s u (b :: v) L N) (h10 : b ≠ 10) (h32 : b ≠ 32) (he : (pieceM (lastLn u).length b (headLn v)).1.e = 0) :
    ST s (u ++ (b :: v).take (pieceM (lastLn u).length b (headLn v)).2) ((b :: v).drop (pieceM (lastLn u).length b (headLn v)).2)
      (L ++ if (pieceM (lastLn u).length b (headLn v)).1.k = 6 then [] else [tokOf (1 + ((headLns u).length : Int)) (pieceM (lastLn u).length b (headLn v)).1])
      (N ++ if (pieceM (lastLn u).length b (headLn v)).1.k = 6 then [tokOf (1 + ((headLns u).length : Int)) (pieceM (lastLn u).length b (headLn v)).1] else []) := by
  obtain ⟨h1, h2, h3, h4, done, h5, h6, h7, h8⟩ := h
  rw [headLn_cons h10] at h6
  have hn0 := pieceM_pos he
  have hnl := pieceM_len (lastLn u).length b (headLn v)
  rw [scan_ok h32 he] at h6
  generalize hp : pieceM (lastLn u).length b (headLn v) = pm at *
  obtain ⟨r, hr1, hr2⟩ := headLn_rest (b :: v)
  rw [headLn_cons h10] at hr1
  have htk : (b :: v).take pm.2 = (b :: headLn v).take pm.2 := by
    conv => lhs; rw [hr1]
    rw [List.take_append_of_le_length hnl]
  have hno : 10 ∉ (b :: v).take pm.2 := by
    rw [htk]
    intro hm
    have := List.mem_of_mem_take hm
    rw [← headLn_cons h10] at this
    exact headLn_no _ this
  obtain ⟨e1, e2⟩ := lines_app (u := u) hno
  have hhl : (b :: v).take pm.2 ++ headLn ((b :: v).drop pm.2) = b :: headLn v := by
    rw [← headLn_app hno, List.take_append_drop, headLn_cons h10]
  have htl : ((b :: v).take pm.2).length = pm.2 := by rw [htk, List.length_take_of_le hnl]
  have hdr : (b :: headLn v).drop pm.2 = headLn ((b :: v).drop pm.2) := by
    have := congrArg (List.drop pm.2) hhl
    rw [List.drop_append, htl, Nat.sub_self, List.drop_of_length_le (by rw [htl]; exact Nat.le_refl _), List.nil_append, List.drop_zero] at this
    exact this.symm
  refine ⟨by rw [h1, List.append_assoc, List.take_append_drop], by rw [e1]; exact h2, ?_, ?_, done ++ [pm.1], errOf_snoc h5 _ he, ?_, ?_, ?_⟩
  · rw [List.length_append, List.length_append, htl]
    split <;> simp <;> omega
  · rw [List.length_append, List.length_append, htl]
    split <;> simp <;> omega
  · rw [e2, List.append_assoc, hhl, h6, hdr, List.length_append, htl, List.append_assoc]
    rfl
  · rw [e1, h7, keptOf_snoc, List.append_assoc]
    congr 2
    by_cases hk : pm.1.k = 6
    · simp [isTok, hk]
    · simp [isTok, hk]
  · rw [e1, h8, keptOf_snoc, List.append_assoc]
    congr 2
    by_cases hk : pm.1.k = 6
    · simp [isNote, hk]
    · simp [isNote, hk]
theorem ST_err {s u v : List UInt8} {b : UInt8} {L N : List Tok} (h : ST s u (b :: v) L N) (h10 : b ≠ 10) (h32 : b ≠ 32) (he : (pieceM (lastLn u).length b (headLn v)).1.e ≠ 0) :
    lexedR s = ([], [], 1 + ((headLns u).length : Int), 1 + (pieceM (lastLn u).length b (headLn v)).1.a, (pieceM (lastLn u).length b (headLn v)).1.e) := by
  obtain ⟨h1, h2, h3, h4, done, h5, h6, h7, h8⟩ := h
  have hs := headLns_cons h1
  rw [headLn_cons h10] at h6 hs
  rw [scan_err h32 he] at h6
  unfold lexedR
  rw [hs, firstErr_append, h2, Option.none_or]
  have : errOf (scanM (lastLn u ++ b :: headLn v)) = some (pieceM (lastLn u).length b (headLn v)).1 := by
    rw [scanM_eq, h6]
    exact errOf_cons h5 _ [] he
  simp only [firstErr, this]
theorem ST_end {s u : List UInt8} {L N : List Tok} (h : ST s u [] L N) : lexedR s = (L, N, 0, 0, 0) := by
  obtain ⟨h1, h2, h3, h4, done, h5, h6, h7, h8⟩ := h
  have hs := headLns_cons h1
  have hh : headLn ([] : List UInt8) = [] := rfl
  have ht : tailLns ([] : List UInt8) = [] := rfl
  rw [hh, scan_nil', List.append_nil, List.append_nil] at h6
  rw [hh, ht, List.append_nil] at hs
  have he : errOf (scanM (lastLn u)) = none := by rw [scanM_eq, h6]; exact h5
  have hf : firstErr 1 (splitL 10 s) = none := by
    rw [hs, firstErr_append, h2]
    simp only [firstErr, he]
    rfl
  unfold lexedR
  rw [hf, hs, allToks_append, allToks_append, h7, h8]
  simp only [allToks, List.append_nil, scanM_eq, h6]

/-! ### The reference's own pieces -/
/-- A comment's bytes, or the place of a byte that it must not have. -/
def noteR (v : List UInt8) (at' : Int) : Int × Int := if badIdx (headLn v) ≥ 0 then (-1, at' + badIdx (headLn v)) else ((headLn v).length, 0)
/-- A token's bytes. -/
def textR (b : UInt8) (v : List UInt8) : List UInt8 := if isPart b then (b :: v).takeWhile isPart else signM (b :: v)
theorem note_piece {a : Int} {b : UInt8} {v : List UInt8} (h10 : b ≠ 10) (h : [45, 45].isPrefixOf (b :: v) = true) :
    pieceM a b (headLn v) = if badIdx (headLn (b :: v)) ≥ 0 then (⟨0, [], a + badIdx (headLn (b :: v)), 2⟩, (headLn (b :: v)).length) else (⟨6, headLn (b :: v), a, 0⟩, (headLn (b :: v)).length) := by
  rw [prefix_headLn (by decide), headLn_cons h10] at h
  unfold pieceM
  rw [if_pos h, headLn_cons h10]
theorem text_piece {a : Int} {b : UInt8} {v : List UInt8} (h10 : b ≠ 10) (h : [45, 45].isPrefixOf (b :: v) = false) :
    (shapeM (textR b v)).2 = (pieceM a b (headLn v)).1.e ∧ ((pieceM a b (headLn v)).1.e = 0 → (pieceM a b (headLn v)).1 = ⟨(shapeM (textR b v)).1, textR b v, a, 0⟩ ∧ (pieceM a b (headLn v)).2 = (textR b v).length) ∧ ((pieceM a b (headLn v)).1.e ≠ 0 → (pieceM a b (headLn v)).1.a = a) := by
  rw [prefix_headLn (by decide), headLn_cons h10] at h
  have htw : (b :: v).takeWhile isPart = (b :: headLn v).takeWhile isPart := by rw [takeWhile_headLn, headLn_cons h10]
  have hsg : signM (b :: v) = signM (b :: headLn v) := by rw [signM_headLn, headLn_cons h10]
  have ht : textR b v = if isPart b then (b :: headLn v).takeWhile isPart else signM (b :: headLn v) := by unfold textR; rw [htw, hsg]
  rw [ht]
  generalize headLn v = x at *
  have hpm : pieceM a b x = if 0 < (List.takeWhile isPart (b :: x)).length ∧ b ≠ 95 then
    (⟨(shapeM ((b :: x).take (List.takeWhile isPart (b :: x)).length)).1, (b :: x).take (List.takeWhile isPart (b :: x)).length, a, (shapeM ((b :: x).take (List.takeWhile isPart (b :: x)).length)).2⟩, (List.takeWhile isPart (b :: x)).length)
    else (⟨5, signM (b :: x), a, if (signM (b :: x)).length = 0 then 2 else 0⟩, (signM (b :: x)).length) := by
    unfold pieceM; rw [if_neg (by rw [h]; simp)]
  rw [hpm]
  clear hpm ht hsg htw h h10
  by_cases hp : isPart b = true
  · rw [if_pos hp]
    have h0 : 0 < (List.takeWhile isPart (b :: x)).length := by rw [List.takeWhile_cons, if_pos hp]; simp
    have htk : (b :: x).take (List.takeWhile isPart (b :: x)).length = List.takeWhile isPart (b :: x) := by
      have := List.takeWhile_prefix isPart (l := b :: x)
      exact (List.prefix_iff_eq_take.1 this).symm
    by_cases h95 : b = 95
    · subst h95
      have hs : signM (95 :: x) = [] := by
        cases hss : signM (95 :: x) with
        | nil => rfl
        | cons c y =>
          exfalso
          obtain ⟨k1, k2⟩ := signM_mem hss (by simp)
          obtain ⟨w, hw⟩ := List.isPrefixOf_iff_prefix.1 k2
          have : c = 95 := by simpa using (List.cons.inj hw).1
          subst this
          have := sign_head k1
          revert this
          decide
      rw [if_neg (by simp), hs]
      have hsh : (shapeM (List.takeWhile isPart (95 :: x))).2 = 2 := by
        have hc : List.takeWhile isPart (95 :: x) = 95 :: List.takeWhile isPart x := by rw [List.takeWhile_cons, if_pos (by decide)]
        rw [hc]
        have hd : isDigit 95 = false := by decide
        have hsm : signM (95 :: List.takeWhile isPart x) ≠ 95 :: List.takeWhile isPart x := by
          intro he
          have := sign_head ((mem_signs 95 _).2 he)
          revert this
          decide
        simp [shapeM, hd, hsm]
      rw [hsh]
      simp
    · rw [if_pos ⟨h0, h95⟩, htk]
      refine ⟨rfl, fun he => ⟨?_, rfl⟩, fun _ => rfl⟩
      simp only at he ⊢
      rw [he]
  · rw [if_neg hp]
    have h0 : (List.takeWhile isPart (b :: x)) = [] := by rw [List.takeWhile_cons, if_neg hp]
    rw [if_neg (by rw [h0]; simp)]
    cases hs : signM (b :: x) with
    | nil => simp [shapeM]
    | cons c y =>
      obtain ⟨k1, k2⟩ := signM_mem hs (by simp)
      have hsh := shape_sign k1
      rw [hsh]
      simp
end Go.Plane
end
section
set_option linter.unnecessarySimpa false
set_option linter.unusedVariables false
set_option linter.unusedSimpArgs false
set_option maxRecDepth 100000
set_option maxHeartbeats 4000000
namespace Go.Plane
open Go Go.Proofs
attribute [local irreducible] wops wio wic wdt wdb onOut
theorem bad_int (b : UInt8) : isBad b = (decide ((b.toNat : Int) < 32) || decide (126 < (b.toNat : Int))) := by
  unfold isBad
  rw [Bool.eq_iff_iff]
  simp
  omega
theorem badIdx_at {x : List UInt8} {i : Nat} {b : UInt8} (hb : x[i]? = some b) (h1 : isBad b = true) (h0 : ∀ c ∈ x.take i, isBad c = false) : badIdx x = i := by
  have hi := (List.getElem?_eq_some_iff.1 hb).1
  have : x.findIdx? isBad = some i := by
    rw [List.findIdx?_eq_some_iff_getElem]
    refine ⟨hi, ?_, fun j hj => ?_⟩
    · rw [List.getElem?_eq_getElem hi] at hb; cases hb; exact h1
    · rw [h0 _ (by rw [List.mem_take_iff_getElem]; exact ⟨j, by omega, rfl⟩)]; simp
  unfold badIdx
  rw [this]
theorem badIdx_no {x : List UInt8} (h0 : ∀ c ∈ x, isBad c = false) : badIdx x = -1 := by
  have : x.findIdx? isBad = none := List.findIdx?_eq_none_iff.2 h0
  unfold badIdx
  rw [this]
theorem r_note (s u v : List UInt8) (hs : s.length ≤ 1000000000) (h : s = u ++ 45 :: 45 :: v) : F Γz 65 [.d (.str s), .d (.int .i64 u.length)] (pairI (noteR (45 :: 45 :: v) u.length)) := by
  refine fn_of c65 rfl (by simp only [Env.of, List.zipIdx, List.map]; rfl) ?_
  obtain ⟨r, hr1, hr2⟩ := headLn_rest v
  have hh : headLn (45 :: 45 :: v) = 45 :: 45 :: headLn v := by rw [headLn_cons (by decide), headLn_cons (by decide)]
  have hno := headLn_no v
  unfold noteR
  rw [hh]
  clear hh
  generalize headLn v = x at *
  subst hr1
  have hsl : s.length = u.length + (2 + (x.length + r.length)) := by rw [h]; simp; omega
  have hat : ∀ i c, x[i]? = some c → s[u.length + (2 + i)]? = some c := fun i c hc => by
    have hi := (List.getElem?_eq_some_iff.1 hc).1
    rw [h, List.getElem?_append_right (by omega), show u.length + (2 + i) - u.length = i + 1 + 1 by omega, List.getElem?_cons_succ, List.getElem?_cons_succ, List.getElem?_append_left hi]
    exact hc
  have hend : ∀ c, s[u.length + (2 + x.length)]? = some c → c = 10 := fun c hc => by
    rw [h, List.getElem?_append_right (by omega), show u.length + (2 + x.length) - u.length = x.length + 1 + 1 by omega, List.getElem?_cons_succ, List.getElem?_cons_succ, List.getElem?_append_right (by omega), Nat.sub_self] at hc
    exact hr2 c (by rw [List.head?_eq_getElem?]; exact hc)
  clear hr2 h
  repeat' (first | refine dr ?_ | (refine ds ?_ ?_ <;> intro hb) | ((with_reducible refine dbm ?_); first | exact db_nil | refine dbc ?_ ?_) | ((with_reducible refine natle ?_); first | assumption | omega | (simp; omega)))
  refine LP_for x (fun i _ => [(0, .d (.str s)), (1, .d (.int .i64 u.length)), (6, .d (.int .i64 (2 + (i : Int))))]) (fun _ _ => []) (fun i (_ : Unit) => ∀ c ∈ x.take i, isBad c = false) () ?_ ?_ (by simp) ?_ ?_
  · (first | (simp [Env.shr, Env.get, PV.exp, PV.ids, PV.ids.idsL]; done) | simp [Env.shr, Env.get, PV.exp, PV.ids, PV.ids.idsL, *])
  · first | rfl | simp [shrink, Ent.exp, PV.exp, PV.ids]
  · rintro i b _ hb hi hI ih
    have hsb := hat i b hb
    have hsb2 : s[((u.length : Int) + (2 + (i : Int))).toNat]? = some b := by rw [show ((u.length : Int) + (2 + (i : Int))).toNat = u.length + (2 + i) by omega]; exact hsb
    have h10 : (b.toNat : Int) ≠ 10 := fun hc => by
      have hb10 : b = 10 := (byteN b 10 (by decide)).1 hc
      subst hb10
      exact hno (List.mem_of_getElem? hb)
    have hbi := bad_int b
    cases hbad : isBad b with
    | true =>
      have hx : badIdx (45 :: 45 :: x) = ((i + 2 : Nat) : Int) := badIdx_at (i := i + 2) (by simpa using hb) hbad (by
        intro c hc
        simp only [List.take_succ_cons, List.mem_cons] at hc
        rcases hc with rfl | rfl | hc
        · decide
        · decide
        · exact hI c hc)
      rw [hx, if_pos (by omega)]
      rw [hbad] at hbi
      have hor : (b.toNat : Int) < 32 ∨ 126 < (b.toNat : Int) := by
        have := hbi.symm
        simpa using this
      clear ih hI hx hbi hat hend hno
      rcases hor with hor | hor
      · repeat' (first | refine dr ?_ | (refine ds ?_ ?_ <;> intro hb) | ((with_reducible refine dbm ?_); first | exact db_nil | refine dbc ?_ ?_) | ((with_reducible refine natle ?_); first | assumption | omega | (simp; omega)))
        all_goals (simp [pairI]; omega)
      · have hge : ¬ (b.toNat : Int) < 32 := by omega
        repeat' (first | refine dr ?_ | (refine ds ?_ ?_ <;> intro hb) | ((with_reducible refine dbm ?_); first | exact db_nil | refine dbc ?_ ?_) | ((with_reducible refine natle ?_); first | assumption | omega | (simp; omega)))
        all_goals (simp [pairI]; omega)
    | false =>
      rw [hbad] at hbi
      have hnor : ¬(b.toNat : Int) < 32 ∧ ¬126 < (b.toNat : Int) := by
        have := hbi.symm
        simpa using this
      obtain ⟨hn1, hn2⟩ := hnor
      have ih := ih () (fun c hc => by
        rw [List.take_add_one, hb, List.mem_append] at hc
        rcases hc with hc | hc
        · exact hI c hc
        · simp at hc; subst hc; exact hbad)
      clear hI hbi hat hend hno
      repeat' (first | refine dr ?_ | (refine ds ?_ ?_ <;> intro hb) | ((with_reducible refine dbm ?_); first | exact db_nil | refine dbc ?_ ?_) | ((with_reducible refine natle ?_); first | assumption | omega | (simp; omega)))
      refine LP_at ?_ ?_ ih
      · (first | (simp [Env.shr, Env.get, PV.exp, PV.ids, PV.ids.idsL]; done) | simp [Env.shr, Env.get, PV.exp, PV.ids, PV.ids.idsL, *])
        try (push_cast; omega)
      · simp [shrink, Ent.exp, PV.exp, PV.ids]
  · rintro _ hI
    rw [List.take_length] at hI
    have hx : badIdx (45 :: 45 :: x) = -1 := badIdx_no (by
      intro c hc
      simp only [List.mem_cons] at hc
      rcases hc with rfl | rfl | hc
      · decide
      · decide
      · exact hI c hc)
    rw [hx, if_neg (by decide)]
    clear hI hx hat hno
    by_cases hlt : u.length + (2 + x.length) < s.length
    · have hc := List.getElem?_eq_getElem hlt
      have h10 := hend _ hc
      generalize s[u.length + (2 + x.length)] = c at *
      subst h10
      have hsb2 : s[((u.length : Int) + (2 + (x.length : Int))).toNat]? = some 10 := by rw [show ((u.length : Int) + (2 + (x.length : Int))).toNat = u.length + (2 + x.length) by omega]; exact hc
      have hten : ((10 : UInt8).toNat : Int) = 10 := rfl
      clear hend
      repeat' (first | refine dr ?_ | (refine ds ?_ ?_ <;> intro hb) | ((with_reducible refine dbm ?_); first | exact db_nil | refine dbc ?_ ?_) | ((with_reducible refine natle ?_); first | assumption | omega | (simp; omega)))
      all_goals (simp [pairI]; omega)
    · clear hend
      repeat' (first | refine dr ?_ | (refine ds ?_ ?_ <;> intro hb) | ((with_reducible refine dbm ?_); first | exact db_nil | refine dbc ?_ ?_) | ((with_reducible refine natle ?_); first | assumption | omega | (simp; omega)))
      all_goals (simp [pairI]; omega)
theorem r_sign (s u v : List UInt8) (hs : s.length ≤ 1000000000) (h : s = u ++ v) : F Γz 66 [.d (.str s), .d (.int .i64 u.length)] (.d (.str (signM v))) := by
  refine fn_of c66 rfl (by simp only [Env.of, List.zipIdx, List.map]; rfl) ?_
  have hsg := r_signs
  have hln : (strsD signs).length = 22 := by rw [strsD_length]; rfl
  have hsl : s.length = u.length + v.length := by rw [h]; simp
  have hsm : signM v = (signs.find? fun x => x.isPrefixOf v).getD [] := rfl
  have hl2 : ∀ x ∈ signs, x.length ≤ 2 := by decide
  have hl22 : signs.length = 22 := rfl
  rw [hsm]
  generalize signs = L at *
  repeat' (first | ((with_reducible refine wcm ?_); first | refine cF (hsg) ?_) | refine dr ?_ | (refine ds ?_ ?_ <;> intro hb) | ((with_reducible refine dbm ?_); first | exact db_nil | refine dbc ?_ ?_) | ((with_reducible refine natle ?_); first | assumption | omega | (simp; omega)))
  refine LP_for L (fun i _ => [(0, .d (.str s)), (1, .d (.int .i64 u.length)), (5, .d (.slice (strsD L))), (6, .d (.int .i64 i))]) (fun _ _ => []) (fun i (_ : Unit) => ∀ y ∈ L.take i, y.isPrefixOf v = false) () ?_ ?_ (by simp) ?_ ?_
  · (first | (simp [Env.shr, Env.get, PV.exp, PV.ids, PV.ids.idsL]; done) | simp [Env.shr, Env.get, PV.exp, PV.ids, PV.ids.idsL, *])
  · first | rfl | simp [shrink, Ent.exp, PV.exp, PV.ids]
  · rintro i x _ hx hi hI ih
    have hr := strsD_at hx
    have hx2 := hl2 x (List.mem_of_getElem? hx)
    have hsub : u.length + x.length ≤ s.length → ((s.take (u.length + x.length)).drop u.length == x) = x.isPrefixOf v := fun hle => by
      rw [Bool.eq_iff_iff, beq_iff_eq, List.isPrefixOf_iff_prefix, List.prefix_iff_eq_take, h, List.take_append, List.take_of_length_le (by omega), List.drop_append_of_le_length (by omega), List.drop_of_length_le (by omega), List.nil_append, show u.length + x.length - u.length = x.length by omega]
      exact eq_comm
    have htn : ((u.length : Int) + (x.length : Int)).toNat = u.length + x.length := by omega
    clear hsg hl2 h
    by_cases hle : u.length + x.length ≤ s.length
    · replace hsub := hsub hle
      cases hp : x.isPrefixOf v with
      | true =>
        rw [hp, beq_iff_eq] at hsub
        have hf : L.find? (fun x => x.isPrefixOf v) = some x := find_at hx hp hI
        rw [hf]
        clear ih hI hf
        repeat' (first | refine dr ?_ | (refine ds ?_ ?_ <;> intro hb) | ((with_reducible refine dbm ?_); first | exact db_nil | refine dbc ?_ ?_) | ((with_reducible refine natle ?_); first | assumption | omega | (simp; omega)))
        all_goals (simp [*]; done)
      | false =>
        rw [hp] at hsub
        have hne : (s.take (u.length + x.length)).drop u.length ≠ x := fun he => by rw [he] at hsub; simp at hsub
        have ih := ih () (fun y hy => by
          rw [List.take_add_one, hx, List.mem_append] at hy
          rcases hy with hy | hy
          · exact hI y hy
          · simp at hy; subst hy; exact hp)
        clear hI hsub
        repeat' (first | refine dr ?_ | (refine ds ?_ ?_ <;> intro hb) | ((with_reducible refine dbm ?_); first | exact db_nil | refine dbc ?_ ?_) | ((with_reducible refine natle ?_); first | assumption | omega | (simp; omega)))
        all_goals first
          | exact absurd ‹(s.take (u.length + x.length)).drop u.length = x› hne
          | (refine LP_at ?_ ?_ ih
             · (first | (simp [Env.shr, Env.get, PV.exp, PV.ids, PV.ids.idsL]; done) | simp [Env.shr, Env.get, PV.exp, PV.ids, PV.ids.idsL, *])
             · simp [shrink, Ent.exp, PV.exp, PV.ids])
    · have hp : x.isPrefixOf v = false := by
        rw [Bool.eq_false_iff]
        intro hp
        have := (List.isPrefixOf_iff_prefix.1 hp).length_le
        omega
      have ih := ih () (fun y hy => by
        rw [List.take_add_one, hx, List.mem_append] at hy
        rcases hy with hy | hy
        · exact hI y hy
        · simp at hy; subst hy; exact hp)
      clear hI hsub
      repeat' (first | refine dr ?_ | (refine ds ?_ ?_ <;> intro hb) | ((with_reducible refine dbm ?_); first | exact db_nil | refine dbc ?_ ?_) | ((with_reducible refine natle ?_); first | assumption | omega | (simp; omega)))
      all_goals
        refine LP_at ?_ ?_ ih
        · (first | (simp [Env.shr, Env.get, PV.exp, PV.ids, PV.ids.idsL]; done) | simp [Env.shr, Env.get, PV.exp, PV.ids, PV.ids.idsL, *])
        · simp [shrink, Ent.exp, PV.exp, PV.ids]
  · rintro _ hI
    rw [List.take_length] at hI
    have hf : L.find? (fun x => x.isPrefixOf v) = none := List.find?_eq_none.2 (fun x hx => by rw [hI x hx]; simp)
    rw [hf]
    clear hI hf hsg hl2 h
    repeat' (first | refine dr ?_ | (refine ds ?_ ?_ <;> intro hb) | ((with_reducible refine dbm ?_); first | exact db_nil | refine dbc ?_ ?_) | ((with_reducible refine natle ?_); first | assumption | omega | (simp; omega)))
    all_goals (simp [*]; done)
end Go.Plane
end
section
set_option linter.unnecessarySimpa false
set_option linter.unusedVariables false
set_option linter.unusedSimpArgs false
set_option maxRecDepth 100000
set_option maxHeartbeats 8000000
namespace Go.Plane
open Go Go.Proofs
attribute [local irreducible] wops wio wic wdt wdb onOut
theorem sub_take {s u v : List UInt8} (h : s = u ++ v) (n : Nat) : (s.take (u.length + n)).drop u.length = v.take n := by
  rw [h, List.take_append, List.take_of_length_le (by omega), List.drop_append_of_le_length (by omega), List.drop_of_length_le (by omega), List.nil_append, show u.length + n - u.length = n by omega]
def lexedP (x : List Tok × List Tok × Int × Int × Int) : PV := .agg [.slice (toksD x.1), .slice (toksD x.2.1), .int .i64 x.2.2.1, .int .i64 x.2.2.2.1, .int .i64 x.2.2.2.2]
theorem r_read (s : List UInt8) (hs : s.length ≤ 100000000) : F Γz 39 [.d (.str s)] (lexedP (lexedR s)) := by
  refine fn_of c39 rfl (by simp only [Env.of, List.zipIdx, List.map]; rfl) ?_
  repeat' (first | refine dr ?_ | (refine ds ?_ ?_ <;> intro hb) | ((with_reducible refine dbm ?_); first | exact db_nil | refine dbc ?_ ?_) | ((with_reducible refine natle ?_); first | assumption | omega | (simp; omega)))
  refine LP_ind (α := List UInt8 × List UInt8 × List Tok × List Tok) (fun a => a.2.1.length)
    (fun a => [(0, .d (.str s)), (2, .ptr 0 0), (3, .ptr 1 0), (4, .d (.int .i64 (1 + ((headLns a.1).length : Int)))), (5, .d (.int .i64 ((a.1.length : Int) - (lastLn a.1).length))), (6, .d (.int .i64 a.1.length))])
    (fun a => [.box 36 [.snil, .snil, .d (.int .i64 0), .d (.int .i64 0), .d (.int .i64 0)], .box 36 [.lref 3 a.2.2.1.length, .lref 2 a.2.2.2.length, .d (.int .i64 0), .d (.int .i64 0), .d (.int .i64 0)], .lst (49, 4) (toksD a.2.2.2), .lst (49, 4) (toksD a.2.2.1)])
    (fun a => ST s a.1 a.2.1 a.2.2.1 a.2.2.2) ([], s, [], []) ?_ ?_ (ST_zero s) ?_
  · simp [Env.shr, Env.get, PV.exp, PV.ids, PV.ids.idsL, headLns, lastLn, splitL]
  · first | rfl | simp [shrink, Ent.exp, PV.exp, PV.ids, toksD]
  rintro ⟨u, v, L, N⟩ hST ih
  simp only at hST ih
  apply LP_go
  have hsu := hST.1
  have hLl := hST.2.2.1
  have hNl := hST.2.2.2.1
  have hsl : s.length = u.length + v.length := by rw [hsu]; simp
  have hLd := toksD_length L
  have hNd := toksD_length N
  have hLd2 := toksD_len L
  have hNd2 := toksD_len N
  have hll := bytesM_headLns u
  have hln : (headLns u).length ≤ u.length := by rw [headLns_length]; exact List.count_le_length
  have hcl : (lastLn u).length ≤ u.length := by
    have := bytesM_nonneg (headLns u)
    omega
  clear hll
  cases v with
  | nil =>
    have hend := ST_end hST
    have ht1 : (toksD L).take L.length = toksD L := List.take_of_length_le (by rw [toksD_length]; exact Nat.le_refl _)
    have ht2 : (toksD N).take N.length = toksD N := List.take_of_length_le (by rw [toksD_length]; exact Nat.le_refl _)
    simp only [List.length_nil, Nat.add_zero] at hsl
    rw [hend]
    clear hend hST ih hsu
    repeat' (first | refine dr ?_ | (refine ds ?_ ?_ <;> intro hb) | ((with_reducible refine dbm ?_); first | exact db_nil | refine dbc ?_ ?_) | ((with_reducible refine natle ?_); first | assumption | omega | (simp; omega)))
    all_goals (simp [lexedP, ht1, ht2]; done)
  | cons b v =>
    simp only [List.length_cons] at hsl
    have hsb : s[u.length]? = some b := by rw [hsu]; simp
    by_cases h10 : b = 10
    · subst h10
      have ih := ih (u ++ [10], v, L, N) (ST_lf hST) (by simp)
      obtain ⟨e1, e2⟩ := lines_lf u
      have hten : ((10 : UInt8).toNat : Int) = 10 := rfl
      simp only [e1, e2, List.length_append, List.length_singleton, List.length_nil] at ih
      clear e1 e2 hST hsu
      generalize (headLns u).length = hn at *
      generalize (lastLn u).length = cl at *
      repeat' (first | refine dr ?_ | (refine ds ?_ ?_ <;> intro hb) | ((with_reducible refine dbm ?_); first | exact db_nil | refine dbc ?_ ?_) | ((with_reducible refine natle ?_); first | assumption | omega | (simp; omega)))
      refine LP_at ?_ ?_ ih
      · simp [Env.shr, Env.get, PV.exp, PV.ids, PV.ids.idsL] <;> omega
      · simp [shrink, Ent.exp, PV.exp, PV.ids]
    have hb10 : (b.toNat : Int) ≠ 10 := fun hc => h10 ((byteN b 10 (by decide)).1 hc)
    by_cases h32 : b = 32
    · subst h32
      have ih := ih (u ++ [32], v, L, N) (ST_blank hST) (by simp)
      obtain ⟨e1, e2⟩ := lines_app (u := u) (w := [32]) (by decide)
      have hten : ((32 : UInt8).toNat : Int) = 32 := rfl
      simp only [e1, e2, List.length_append, List.length_singleton, List.length_nil] at ih
      clear e1 e2 hST hsu h10
      generalize (headLns u).length = hn at *
      generalize (lastLn u).length = cl at *
      repeat' (first | refine dr ?_ | (refine ds ?_ ?_ <;> intro hb) | ((with_reducible refine dbm ?_); first | exact db_nil | refine dbc ?_ ?_) | ((with_reducible refine natle ?_); first | assumption | omega | (simp; omega)))
      refine LP_at ?_ ?_ ih
      · simp [Env.shr, Env.get, PV.exp, PV.ids, PV.ids.idsL] <;> omega
      · simp [shrink, Ent.exp, PV.exp, PV.ids]
    have hb32 : (b.toNat : Int) ≠ 32 := fun hc => h32 ((byteN b 32 (by decide)).1 hc)
    have hpn := pieceM_len (lastLn u).length b (headLn v)
    have hST2 : (pieceM (lastLn u).length b (headLn v)).1.e = 0 → headLns (u ++ (b :: v).take (pieceM (lastLn u).length b (headLn v)).2) = headLns u ∧ (lastLn (u ++ (b :: v).take (pieceM (lastLn u).length b (headLn v)).2)).length = (lastLn u).length + (pieceM (lastLn u).length b (headLn v)).2 ∧ ((b :: v).take (pieceM (lastLn u).length b (headLn v)).2).length = (pieceM (lastLn u).length b (headLn v)).2 := fun he => by
      obtain ⟨r, hr1, hr2⟩ := headLn_rest (b :: v)
      rw [headLn_cons h10] at hr1
      have htk : (b :: v).take (pieceM (lastLn u).length b (headLn v)).2 = (b :: headLn v).take (pieceM (lastLn u).length b (headLn v)).2 := by
        conv => lhs; rw [hr1]
        rw [List.take_append_of_le_length hpn]
      have hno : 10 ∉ (b :: v).take (pieceM (lastLn u).length b (headLn v)).2 := by
        rw [htk]
        intro hm
        have := List.mem_of_mem_take hm
        rw [← headLn_cons h10] at this
        exact headLn_no _ this
      obtain ⟨e1, e2⟩ := lines_app (u := u) hno
      have e3 : ((b :: v).take (pieceM (lastLn u).length b (headLn v)).2).length = (pieceM (lastLn u).length b (headLn v)).2 := by rw [htk, List.length_take_of_le hpn]
      exact ⟨e1, by rw [e2, List.length_append, e3], e3⟩
    have hpos : (pieceM (lastLn u).length b (headLn v)).1.e = 0 → 0 < (pieceM (lastLn u).length b (headLn v)).2 := pieceM_pos
    have hnext := fun he => ih (_, (b :: v).drop (pieceM (lastLn u).length b (headLn v)).2, _, _) (ST_piece hST h10 h32 he) (by
      simp only [List.length_drop, List.length_cons]
      have := hpos he
      omega)
    have herr := fun he => ST_err hST h10 h32 he
    clear ih hST hpos
    have hsv : (s.drop u.length) = b :: v := by rw [hsu]; simp
    cases hpre : [45, 45].isPrefixOf (b :: v) with
    | true =>
      obtain ⟨w, hw⟩ := List.isPrefixOf_iff_prefix.1 hpre
      simp only [List.cons_append, List.nil_append, List.cons.injEq] at hw
      obtain ⟨rfl, rfl⟩ := hw
      have hno := r_note s u w (by omega) hsu
      have hpc := note_piece (a := (lastLn u).length) (v := 45 :: w) (by decide : (45 : UInt8) ≠ 10) hpre
      have hs2 : s[((u.length : Int) + 1).toNat]? = some 45 := by
        rw [hsu, show ((u.length : Int) + 1).toNat = u.length + 1 by omega, List.getElem?_append_right (by omega), show u.length + 1 - u.length = 1 by omega]; rfl
      have h45 : ((45 : UInt8).toNat : Int) = 45 := rfl
      have hsubt := fun n => sub_take hsu n
      rw [hpc] at hST2 hnext herr hpn
      unfold noteR at hno
      have hhl : (45 :: 45 :: w).take (headLn (45 :: 45 :: w)).length = headLn (45 :: 45 :: w) := by
        obtain ⟨r, hr1, _⟩ := headLn_rest (45 :: 45 :: w)
        conv => lhs; arg 2; rw [hr1]
        exact List.take_left
      have hhll : (headLn (45 :: 45 :: w)).length ≤ (45 :: 45 :: w).length := by
        obtain ⟨r, hr1, _⟩ := headLn_rest (45 :: 45 :: w)
        have := congrArg List.length hr1
        rw [List.length_append] at this
        omega
      have hbl := badIdx_lt (headLn (45 :: 45 :: w))
      by_cases hbi : badIdx (headLn (45 :: 45 :: w)) ≥ 0
      · rw [if_pos hbi] at hST2 hnext herr hno
        have herr := herr (by simp)
        rw [herr]
        simp only [pairI] at hno
        generalize badIdx (headLn (45 :: 45 :: w)) = bi at *
        simp only [List.length_cons] at hhll hsl
        clear hST2 hnext herr hpc hpre hsubt hhl hsu hsv h10 h32
        generalize (headLns u).length = hn at *
        generalize (lastLn u).length = cl at *
        repeat' (first | ((with_reducible refine wcm ?_); first | refine cF (hno) ?_) | refine dr ?_ | (refine ds ?_ ?_ <;> intro hb) | ((with_reducible refine dbm ?_); first | exact db_nil | refine dbc ?_ ?_) | ((with_reducible refine natle ?_); first | assumption | omega | (simp; omega)))
        all_goals (simp [lexedP, toksD]; omega)
      · rw [if_neg hbi] at hST2 hnext herr hno
        obtain ⟨e1, e2, e3⟩ := hST2 rfl
        have hnext := hnext rfl
        replace hsubt := hsubt (headLn (45 :: 45 :: w)).length
        simp only [hhl] at e1 e2 e3 hnext hsubt
        simp only [if_true, List.append_nil, tokOf, List.length_append, e1, e2] at hnext
        simp only [pairI] at hno
        simp only [List.length_cons] at hhll hsl
        clear herr hpc hpre hhl hsu hsv h10 h32 hbl hbi e1 e2 e3 hpn
        generalize headLn (45 :: 45 :: w) = x at *
        have hxt : ((u.length : Int) + (x.length : Int)).toNat = u.length + x.length := by omega
        generalize (headLns u).length = hn at *
        generalize (lastLn u).length = cl at *
        repeat' (first | ((with_reducible refine wcm ?_); first | refine cF (hno) ?_) | refine dr ?_ | (refine ds ?_ ?_ <;> intro hb) | ((with_reducible refine dbm ?_); first | exact db_nil | refine dbc ?_ ?_) | ((with_reducible refine natle ?_); first | assumption | omega | (simp; omega)))
        all_goals
          refine LP_at ?_ ?_ hnext
          · simp [Env.shr, Env.get, PV.exp, PV.ids, PV.ids.idsL] <;> omega
          · simp [shrink, Ent.exp, PV.exp, PV.ids, toksD, hsubt] <;> omega
    | false =>
      obtain ⟨t1, t2, t3⟩ := text_piece (a := (lastLn u).length) h10 hpre
      have hsg := r_sign s u (b :: v) (by omega) hsu
      have hrn := r_run s u.length (by omega) (by omega)
      rw [hsv] at hrn
      have hpt := r_part b
      have hno45 : b = 45 → ∀ c, s[((u.length : Int) + 1).toNat]? = some c → (c.toNat : Int) ≠ 45 := by
        rintro rfl c k2 k3
        have k4 : c = 45 := (byteN c 45 (by decide)).1 k3
        subst k4
        rw [hsu, show ((u.length : Int) + 1).toNat = u.length + 1 by omega, List.getElem?_append_right (by omega), show u.length + 1 - u.length = 1 by omega] at k2
        cases v with
        | nil => simp at k2
        | cons c v =>
          simp at k2
          subst k2
          simp [List.isPrefixOf] at hpre
      have hsubt := fun n => sub_take hsu n
      have htxl : (textR b v).length ≤ v.length + 1 := by
        unfold textR
        split
        · have := (List.takeWhile_sublist (p := isPart) (l := b :: v)).length_le
          simpa using this
        · have := signM_le (b :: v)
          simpa using this
      have hS := r_Shape (textR b v) (by omega)
      have htk : isPart b = true → (b :: v).take (textR b v).length = textR b v := fun hp => by
        unfold textR
        rw [if_pos hp]
        have := List.takeWhile_prefix isPart (l := b :: v)
        exact (List.prefix_iff_eq_take.1 this).symm
      have hsub : isPart b = true → (s.take (u.length + (textR b v).length)).drop u.length = textR b v := fun hp => by rw [hsubt, htk hp]
      have htr : textR b v = if isPart b then (b :: v).takeWhile isPart else signM (b :: v) := rfl
      simp only [aggI] at hS
      have hxt : ((u.length : Int) + ((textR b v).length : Int)).toNat = u.length + (textR b v).length := by omega
      have hnil : isPart b = true → (textR b v).length ≠ 0 := fun hp => by
        rw [htr, if_pos hp, List.takeWhile_cons, if_pos hp]; simp
      by_cases he : (pieceM (lastLn u).length b (headLn v)).1.e = 0
      · obtain ⟨k1, k2⟩ := t2 he
        obtain ⟨e1, e2, e3⟩ := hST2 he
        have hnext := hnext he
        rw [k2] at e1 e2 e3 hnext
        rw [k1] at hnext
        have h6 : (shapeM (textR b v)).1 ≠ 6 := shapeM_ne6 _
        rw [he] at t1
        simp only [if_neg h6, List.append_nil, tokOf, List.length_append, e1, e2, e3] at hnext
        clear herr t2 t3 hST2 k1 k2 e1 e2 e3 hpn he hsubt hpre hsv h10 h32 htk
        cases hp : isPart b with
        | true =>
          rw [hp] at hpt
          rw [if_pos hp] at htr
          rw [← htr] at hrn
          have hsub := hsub hp
          clear hsu htr
          generalize signM (b :: v) = sg at *
          generalize textR b v = tx at *
          generalize shapeM tx = sh at *
          have hS2 := hS
          rw [← hsub] at hS2
          have hrl : ((s.take (u.length + tx.length)).drop u.length).length = tx.length := by rw [hsub]
          generalize (headLns u).length = hn at *
          generalize (lastLn u).length = cl at *
          by_cases h45 : b = 45
          · subst h45
            exfalso
            revert hp
            decide
          have hb45 : (b.toNat : Int) ≠ 45 := fun hc => h45 ((byteN b 45 (by decide)).1 hc)
          clear hno45 h45 hp hnil
          repeat' (first | ((with_reducible refine wcm ?_); first | refine cF (hsg) ?_ | refine cF (hpt) ?_ | refine cF (hrn) ?_ | refine cF (hS) ?_ | refine cF (hS2) ?_) | refine dr ?_ | (refine ds ?_ ?_ <;> intro hb) | ((with_reducible refine dbm ?_); first | exact db_nil | refine dbc ?_ ?_) | ((with_reducible refine natle ?_); first | assumption | omega | (simp; omega)))
          all_goals
            refine LP_at ?_ ?_ hnext
            · simp [Env.shr, Env.get, PV.exp, PV.ids, PV.ids.idsL, hsub] <;> omega
            · simp [shrink, Ent.exp, PV.exp, PV.ids, toksD, hsub] <;> omega
        | false =>
          rw [hp] at hpt
          rw [if_neg (by rw [hp]; simp)] at htr
          rw [← htr] at hsg
          clear hsu htr hsub hrn hnil
          generalize textR b v = tx at *
          generalize shapeM tx = sh at *
          generalize (headLns u).length = hn at *
          generalize (lastLn u).length = cl at *
          by_cases h45 : b = 45
          · have hno45 := hno45 h45
            have hb45 : (b.toNat : Int) = 45 := by rw [h45]; rfl
            cases hc : s[((u.length : Int) + 1).toNat]? with
            | none =>
              have hcl2 : s.length ≤ u.length + 1 := by have := List.getElem?_eq_none_iff.1 hc; omega
              clear h45 hno45
              repeat' (first | ((with_reducible refine wcm ?_); first | refine cF (hsg) ?_ | refine cF (hpt) ?_ | refine cF (hS) ?_) | refine dr ?_ | (refine ds ?_ ?_ <;> intro hb) | ((with_reducible refine dbm ?_); first | exact db_nil | refine dbc ?_ ?_) | ((with_reducible refine natle ?_); first | assumption | omega | (simp; omega)))
              all_goals
                refine LP_at ?_ ?_ hnext
                · simp [Env.shr, Env.get, PV.exp, PV.ids, PV.ids.idsL] <;> omega
                · simp [shrink, Ent.exp, PV.exp, PV.ids, toksD] <;> omega
            | some c =>
              have hc45 := hno45 c hc
              have hcl2 : u.length + 1 < s.length := by have := (List.getElem?_eq_some_iff.1 hc).1; omega
              clear h45 hno45
              repeat' (first | ((with_reducible refine wcm ?_); first | refine cF (hsg) ?_ | refine cF (hpt) ?_ | refine cF (hS) ?_) | refine dr ?_ | (refine ds ?_ ?_ <;> intro hb) | ((with_reducible refine dbm ?_); first | exact db_nil | refine dbc ?_ ?_) | ((with_reducible refine natle ?_); first | assumption | omega | (simp; omega)))
              all_goals
                refine LP_at ?_ ?_ hnext
                · simp [Env.shr, Env.get, PV.exp, PV.ids, PV.ids.idsL] <;> omega
                · simp [shrink, Ent.exp, PV.exp, PV.ids, toksD] <;> omega
          · have hb45 : (b.toNat : Int) ≠ 45 := fun hc => h45 ((byteN b 45 (by decide)).1 hc)
            clear hno45 h45
            repeat' (first | ((with_reducible refine wcm ?_); first | refine cF (hsg) ?_ | refine cF (hpt) ?_ | refine cF (hS) ?_) | refine dr ?_ | (refine ds ?_ ?_ <;> intro hb) | ((with_reducible refine dbm ?_); first | exact db_nil | refine dbc ?_ ?_) | ((with_reducible refine natle ?_); first | assumption | omega | (simp; omega)))
            all_goals
              refine LP_at ?_ ?_ hnext
              · simp [Env.shr, Env.get, PV.exp, PV.ids, PV.ids.idsL] <;> omega
              · simp [shrink, Ent.exp, PV.exp, PV.ids, toksD] <;> omega
      · have herr := herr he
        rw [t3 he, ← t1] at herr
        have he' : (shapeM (textR b v)).2 ≠ 0 := by rw [t1]; exact he
        rw [herr]
        clear herr t1 t2 t3 hST2 hnext hpn he hsubt hpre hsv h10 h32 htk
        cases hp : isPart b with
        | true =>
          rw [hp] at hpt
          rw [if_pos hp] at htr
          rw [← htr] at hrn
          have hsub := hsub hp
          clear hsu htr
          generalize signM (b :: v) = sg at *
          generalize textR b v = tx at *
          generalize shapeM tx = sh at *
          have hS2 := hS
          rw [← hsub] at hS2
          have hrl : ((s.take (u.length + tx.length)).drop u.length).length = tx.length := by rw [hsub]
          generalize (headLns u).length = hn at *
          generalize (lastLn u).length = cl at *
          by_cases h45 : b = 45
          · subst h45
            exfalso
            revert hp
            decide
          have hb45 : (b.toNat : Int) ≠ 45 := fun hc => h45 ((byteN b 45 (by decide)).1 hc)
          clear hno45 h45 hp hnil
          repeat' (first | ((with_reducible refine wcm ?_); first | refine cF (hsg) ?_ | refine cF (hpt) ?_ | refine cF (hrn) ?_ | refine cF (hS) ?_ | refine cF (hS2) ?_) | refine dr ?_ | (refine ds ?_ ?_ <;> intro hb) | ((with_reducible refine dbm ?_); first | exact db_nil | refine dbc ?_ ?_) | ((with_reducible refine natle ?_); first | assumption | omega | (simp; omega)))
          all_goals (simp [lexedP, toksD]; omega)
        | false =>
          rw [hp] at hpt
          rw [if_neg (by rw [hp]; simp)] at htr
          rw [← htr] at hsg
          clear hsu htr hsub hrn hnil
          generalize textR b v = tx at *
          generalize shapeM tx = sh at *
          generalize (headLns u).length = hn at *
          generalize (lastLn u).length = cl at *
          by_cases h45 : b = 45
          · have hno45 := hno45 h45
            have hb45 : (b.toNat : Int) = 45 := by rw [h45]; rfl
            cases hc : s[((u.length : Int) + 1).toNat]? with
            | none =>
              have hcl2 : s.length ≤ u.length + 1 := by have := List.getElem?_eq_none_iff.1 hc; omega
              clear h45 hno45
              repeat' (first | ((with_reducible refine wcm ?_); first | refine cF (hsg) ?_ | refine cF (hpt) ?_ | refine cF (hS) ?_) | refine dr ?_ | (refine ds ?_ ?_ <;> intro hb) | ((with_reducible refine dbm ?_); first | exact db_nil | refine dbc ?_ ?_) | ((with_reducible refine natle ?_); first | assumption | omega | (simp; omega)))
              all_goals (simp [lexedP, toksD]; omega)
            | some c =>
              have hc45 := hno45 c hc
              have hcl2 : u.length + 1 < s.length := by have := (List.getElem?_eq_some_iff.1 hc).1; omega
              clear h45 hno45
              repeat' (first | ((with_reducible refine wcm ?_); first | refine cF (hsg) ?_ | refine cF (hpt) ?_ | refine cF (hS) ?_) | refine dr ?_ | (refine ds ?_ ?_ <;> intro hb) | ((with_reducible refine dbm ?_); first | exact db_nil | refine dbc ?_ ?_) | ((with_reducible refine natle ?_); first | assumption | omega | (simp; omega)))
              all_goals (simp [lexedP, toksD]; omega)
          · have hb45 : (b.toNat : Int) ≠ 45 := fun hc => h45 ((byteN b 45 (by decide)).1 hc)
            clear hno45 h45
            repeat' (first | ((with_reducible refine wcm ?_); first | refine cF (hsg) ?_ | refine cF (hpt) ?_ | refine cF (hS) ?_) | refine dr ?_ | (refine ds ?_ ?_ <;> intro hb) | ((with_reducible refine dbm ?_); first | exact db_nil | refine dbc ?_ ?_) | ((with_reducible refine natle ?_); first | assumption | omega | (simp; omega)))
            all_goals (simp [lexedP, toksD]; omega)
end Go.Plane
end
section
set_option linter.unnecessarySimpa false
set_option linter.unusedVariables false
set_option linter.unusedSimpArgs false
set_option maxRecDepth 100000
set_option maxHeartbeats 4000000
namespace Go.Plane
open Go Go.Proofs
attribute [local irreducible] wops wio wic wdt wdb onOut
/-- The reference's tokens and comments, with the limits. -/
def rTokM (s : List UInt8) : List Tok × List Tok × Int × Int × Int :=
  if 20000 < s.length then ([], [], 0, 0, 3) else if (lexedR s).2.2.2.2 = 0 ∧ 6000 < (lexedR s).1.length then ([], [], 0, 0, 3) else lexedR s
theorem r_Tokens (s : List UInt8) (hs : s.length ≤ 4294967296) : F Γz 10 [.d (.str s)] (lexedP (rTokM s)) := by
  refine fn_of c10 rfl (by simp only [Env.of, List.zipIdx, List.map]; rfl) ?_
  by_cases hl : 20000 < s.length
  · have : rTokM s = ([], [], 0, 0, 3) := by unfold rTokM; rw [if_pos hl]
    rw [this]
    repeat' (first | refine dr ?_ | (refine ds ?_ ?_ <;> intro hb) | ((with_reducible refine dbm ?_); first | exact db_nil | refine dbc ?_ ?_) | ((with_reducible refine natle ?_); first | assumption | omega | (simp; omega)))
    all_goals (simp [lexedP, toksD]; done)
  have hR := r_read s (by omega)
  have : rTokM s = if (lexedR s).2.2.2.2 = 0 ∧ 6000 < (lexedR s).1.length then ([], [], 0, 0, 3) else lexedR s := by unfold rTokM; rw [if_neg hl]
  rw [this]
  simp only [lexedP] at hR
  generalize lexedR s = x at *
  have hxl := toksD_length x.1
  clear this
  by_cases hc : x.2.2.2.2 = 0 ∧ 6000 < x.1.length
  · rw [if_pos hc]
    obtain ⟨h1, h2⟩ := hc
    repeat' (first | ((with_reducible refine wcm ?_); first | refine cF (hR) ?_) | refine dr ?_ | (refine ds ?_ ?_ <;> intro hb) | ((with_reducible refine dbm ?_); first | exact db_nil | refine dbc ?_ ?_) | ((with_reducible refine natle ?_); first | assumption | omega | (simp; omega)))
    all_goals (simp [lexedP, toksD]; done)
  · rw [if_neg hc]
    repeat' (first | ((with_reducible refine wcm ?_); first | refine cF (hR) ?_) | refine dr ?_ | (refine ds ?_ ?_ <;> intro hb) | ((with_reducible refine dbm ?_); first | exact db_nil | refine dbc ?_ ?_) | ((with_reducible refine natle ?_); first | assumption | omega | (simp; omega)))
    all_goals first
      | (exfalso; exact hc ⟨by omega, by omega⟩)
      | (simp [lexedP]; done)
      | (simp [lexedP]; omega)
/-- The two agree. -/
theorem rTokM_eq (s : List UInt8) : (rTokM s).1 = (tokensM s).1 ∧ (rTokM s).2.1 = (notesM s).1 ∧ (rTokM s).2.2.1 = (tokensM s).2.1 ∧ (rTokM s).2.2.2.1 = (tokensM s).2.2.1 ∧ (rTokM s).2.2.2.2 = (tokensM s).2.2.2 ∧ (notesM s).2 = (tokensM s).2.2.2 := by
  have hn2 : (notesM s).2 = (tokensM s).2.2.2 := by
    unfold notesM
    split
    · rfl
    · rename_i h; simpa using (Classical.not_not.1 h).symm
  unfold rTokM
  by_cases hl : 20000 < s.length
  · have ht : tokensM s = ([], 0, 0, 3) := by unfold tokensM; rw [if_pos hl]
    have hn : (notesM s).1 = [] := by unfold notesM; rw [ht]; rfl
    rw [if_pos hl, hn2, ht, hn]
    simp
  rw [if_neg hl, hn2]
  have hr1 := readM_eq isTok (splitL 10 s) 1 []
  have hr2 := readM_eq isNote (splitL 10 s) 1 []
  unfold lexedR
  cases hf : firstErr 1 (splitL 10 s) with
  | some e =>
    rw [hf] at hr1 hr2
    have hne := firstErr_ne _ _ _ hf
    have ht : tokensM s = ([], e) := by
      unfold tokensM
      rw [if_neg hl, hr1, if_neg (by simp)]
    have hn : (notesM s).1 = [] := by unfold notesM; rw [ht, if_pos hne]
    simp only
    rw [if_neg (by simp), ht, hn]
    simp
  | none =>
    rw [hf] at hr1 hr2
    simp only [List.nil_append] at hr1 hr2
    simp only [true_and]
    by_cases h6 : 6000 < (allToks isTok 1 (splitL 10 s)).length
    · have ht : tokensM s = ([], 0, 0, 3) := by unfold tokensM; rw [if_neg hl, hr1, if_pos ⟨rfl, h6⟩]
      have hn : (notesM s).1 = [] := by unfold notesM; rw [ht]; rfl
      rw [if_pos h6, ht, hn]
      simp
    · have ht : tokensM s = (allToks isTok 1 (splitL 10 s), 0, 0, 0) := by unfold tokensM; rw [if_neg hl, hr1, if_neg (by simp; omega)]
      have hn : (notesM s).1 = allToks isNote 1 (splitL 10 s) := by
        unfold notesM
        rw [ht, hr2]
        simp
      rw [if_neg h6, ht, hn]
      simp
end Go.Plane
end
section
set_option linter.unnecessarySimpa false
set_option linter.unusedVariables false
set_option linter.unusedSimpArgs false
set_option maxRecDepth 100000
set_option maxHeartbeats 8000000
namespace Go.Plane
open Go Go.Proofs
attribute [local irreducible] wops wio wic wdt wdb onOut
def needsE (a b : Tok) : Bool × Int := if rightM a = false ∨ rightM b = false then (false, 1) else (needsM a b, 0)
theorem f_Needs (a b : Tok) (ha : a.s.length ≤ 50000000) (hb : b.s.length ≤ 50000000) : F Γz 17 [.agg a.row, .agg b.row] (.tup [.d (.bool (needsE a b).1), .d (.int .i64 (needsE a b).2)]) := by
  refine fn_of c17 rfl (by simp only [Env.of, List.zipIdx, List.map]; rfl) ?_
  have h1 := f_right a (by omega)
  have h2 := f_right b (by omega)
  have h3 := f_needs' a b ha hb
  cases hra : rightM a with
  | false =>
    rw [hra] at h1
    have : needsE a b = (false, 1) := by simp [needsE, hra]
    rw [this]
    repeat' (first | ((with_reducible refine wcm ?_); first | refine cF (h1) ?_) | refine dr ?_ | (refine ds ?_ ?_ <;> intro hb) | ((with_reducible refine dbm ?_); first | exact db_nil | refine dbc ?_ ?_) | ((with_reducible refine natle ?_); first | assumption | omega | (simp; omega)))
    all_goals (simp; done)
  | true =>
    rw [hra] at h1
    cases hrb : rightM b with
    | false =>
      rw [hrb] at h2
      have : needsE a b = (false, 1) := by simp [needsE, hrb]
      rw [this]
      repeat' (first | ((with_reducible refine wcm ?_); first | refine cF (h1) ?_ | refine cF (h2) ?_) | refine dr ?_ | (refine ds ?_ ?_ <;> intro hb) | ((with_reducible refine dbm ?_); first | exact db_nil | refine dbc ?_ ?_) | ((with_reducible refine natle ?_); first | assumption | omega | (simp; omega)))
      all_goals (simp; done)
    | true =>
      rw [hrb] at h2
      have : needsE a b = (needsM a b, 0) := by simp [needsE, hra, hrb]
      rw [this]
      repeat' (first | ((with_reducible refine wcm ?_); first | refine cF (h1) ?_ | refine cF (h2) ?_ | refine cF (h3) ?_) | refine dr ?_ | (refine ds ?_ ?_ <;> intro hb) | ((with_reducible refine dbm ?_); first | exact db_nil | refine dbc ?_ ?_) | ((with_reducible refine natle ?_); first | assumption | omega | (simp; omega)))
      all_goals (simp; done)
end Go.Plane
end
section
set_option linter.unnecessarySimpa false
set_option linter.unusedVariables false
set_option linter.unusedSimpArgs false
set_option maxRecDepth 100000
set_option maxHeartbeats 8000000
namespace Go.Plane
open Go Go.Proofs
attribute [local irreducible] wops wio wic wdt wdb onOut
theorem right_no {t : Tok} (h : rightM t = true) : 10 ∉ t.s := fun hc => (right_bytes h 10 hc).2 rfl
theorem r_right (t : Tok) (hs : t.s.length ≤ 4294967296) : F Γz 45 [.agg t.row] (.d (.bool (rightM t))) := by
  refine fn_of c45 rfl (by simp only [Env.of, List.zipIdx, List.map]; rfl) ?_
  have hS := r_Shape t.s hs
  have h6 := shapeM_ne6 t.s
  have hr : rightM t = decide ((shapeM t.s).2 = 0 ∧ (shapeM t.s).1 = t.k) := by
    unfold rightM
    rw [decide_eq_decide]
    constructor
    · exact fun h => ⟨h.1, h.2.1⟩
    · exact fun h => ⟨h.1, h.2, by rw [← h.2]; exact h6⟩
  rw [hr]
  simp only [aggI] at hS
  clear hr h6
  generalize shapeM t.s = x at *
  have hbq : (x.1 == t.k) = decide (x.1 = t.k) := rfl
  repeat' (first | ((with_reducible refine wcm ?_); first | refine cF (hS) ?_) | refine dr ?_ | (refine ds ?_ ?_ <;> intro hb) | ((with_reducible refine dbm ?_); first | exact db_nil | refine dbc ?_ ?_) | ((with_reducible refine natle ?_); first | assumption | omega | (simp; omega)))
  all_goals (simp [*]; done)
theorem needs_lexed (a b : Tok) (ha : rightM a = true) (hb : rightM b = true) : (lexedR (a.s ++ b.s)).1 = (readM isTok 1 [a.s ++ b.s] []).1 ∧ (lexedR (a.s ++ b.s)).2.2.2.2 = (readM isTok 1 [a.s ++ b.s] []).2.2.2 := by
  have hno : 10 ∉ a.s ++ b.s := by rw [List.mem_append, not_or]; exact ⟨right_no ha, right_no hb⟩
  unfold lexedR
  rw [splitL_one hno, readM_eq]
  cases firstErr 1 [a.s ++ b.s] with
  | some e => exact ⟨rfl, rfl⟩
  | none => exact ⟨rfl, rfl⟩
theorem r_needs (a b : Tok) (ha : rightM a = true) (hb : rightM b = true) (hs : a.s.length + b.s.length ≤ 100000000) : F Γz 46 [.agg a.row, .agg b.row] (.d (.bool (needsM a b))) := by
  refine fn_of c46 rfl (by simp only [Env.of, List.zipIdx, List.map]; rfl) ?_
  have hR := r_read (a.s ++ b.s) (by simp; omega)
  obtain ⟨h1, h2⟩ := needs_lexed a b ha hb
  have hl := readM_len isTok [a.s ++ b.s] 1 []
  simp only [List.length_nil, List.map_cons, List.map_nil, List.sum_cons, List.sum_nil, List.length_append] at hl
  have hN : needsM a b = (decide ((readM isTok 1 [a.s ++ b.s] []).2.2.2 ≠ 0) || !sameK (readM isTok 1 [a.s ++ b.s] []).1 [a, b]) := rfl
  rw [hN, ← h1, ← h2]
  rw [← h1] at hl
  have hK := r_SameKinds (lexedR (a.s ++ b.s)).1 [a, b] (by omega) (by simp)
  clear hN h1 h2 ha hb
  generalize lexedR (a.s ++ b.s) = x at *
  have htl := toksD_length x.1
  simp only [lexedP] at hR
  simp only [toksD, List.map_cons, List.map_nil, Tok.row] at hK hR htl
  by_cases he : x.2.2.2.2 = 0
  · repeat' (first | ((with_reducible refine wcm ?_); first | refine cF (hR) ?_ | refine cF (hK) ?_) | refine dr ?_ | (refine ds ?_ ?_ <;> intro hb) | ((with_reducible refine dbm ?_); first | exact db_nil | refine dbc ?_ ?_) | ((with_reducible refine natle ?_); first | assumption | omega | (simp; omega)))
    all_goals (simp [*]; done)
  · repeat' (first | ((with_reducible refine wcm ?_); first | refine cF (hR) ?_ | refine cF (hK) ?_) | refine dr ?_ | (refine ds ?_ ?_ <;> intro hb) | ((with_reducible refine dbm ?_); first | exact db_nil | refine dbc ?_ ?_) | ((with_reducible refine natle ?_); first | assumption | omega | (simp; omega)))
    all_goals (simp [*]; done)
theorem r_Needs (a b : Tok) (ha : a.s.length ≤ 50000000) (hb : b.s.length ≤ 50000000) : F Γz 18 [.agg a.row, .agg b.row] (.agg [.bool (needsE a b).1, .int .i64 (needsE a b).2]) := by
  refine fn_of c18 rfl (by simp only [Env.of, List.zipIdx, List.map]; rfl) ?_
  have h1 := r_right a (by omega)
  have h2 := r_right b (by omega)
  have h3 := fun k1 k2 => r_needs a b k1 k2 (by omega)
  cases hra : rightM a with
  | false =>
    have : needsE a b = (false, 1) := by simp [needsE, hra]
    rw [this]
    rw [hra] at h1
    clear h3 this
    repeat' (first | ((with_reducible refine wcm ?_); first | refine cF (h1) ?_ | refine cF (h2) ?_) | refine dr ?_ | (refine ds ?_ ?_ <;> intro hb) | ((with_reducible refine dbm ?_); first | exact db_nil | refine dbc ?_ ?_) | ((with_reducible refine natle ?_); first | assumption | omega | (simp; omega)))
    all_goals (simp; done)
  | true =>
    cases hrb : rightM b with
    | false =>
      have : needsE a b = (false, 1) := by simp [needsE, hrb]
      rw [this]
      rw [hra] at h1
      rw [hrb] at h2
      clear h3 this
      repeat' (first | ((with_reducible refine wcm ?_); first | refine cF (h1) ?_ | refine cF (h2) ?_) | refine dr ?_ | (refine ds ?_ ?_ <;> intro hb) | ((with_reducible refine dbm ?_); first | exact db_nil | refine dbc ?_ ?_) | ((with_reducible refine natle ?_); first | assumption | omega | (simp; omega)))
      all_goals (simp; done)
    | true =>
      have : needsE a b = (needsM a b, 0) := by simp [needsE, hra, hrb]
      rw [this]
      have h3 := h3 hra hrb
      rw [hra] at h1
      rw [hrb] at h2
      clear this
      repeat' (first | ((with_reducible refine wcm ?_); first | refine cF (h1) ?_ | refine cF (h2) ?_ | refine cF (h3) ?_) | refine dr ?_ | (refine ds ?_ ?_ <;> intro hb) | ((with_reducible refine dbm ?_); first | exact db_nil | refine dbc ?_ ?_) | ((with_reducible refine natle ?_); first | assumption | omega | (simp; omega)))
      all_goals (simp; done)
end Go.Plane
end

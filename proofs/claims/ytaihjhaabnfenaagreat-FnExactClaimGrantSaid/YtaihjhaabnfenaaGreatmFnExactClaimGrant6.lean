/- The law FnExactClaimGrant returns true on every input: what the program tells is what the document tells, by the contracts of all functions that it reaches and a proof in plain Lean. There is no condition. -/
import Derived.Test.YtaihjhaabnfenaaGreatmFnExactClaimGrant5
import Derived.Test.YtaihjhaabnfenaaGreatRows
import Derived.Test.YtaihjhaabnfenaaGreatmFnExactClaimGrant2
import Derived.WalkKit
import Derived.ProofKit
import Derived.OpenShut
import Derived.ShutString
import Derived.ChangeOld
import Derived.Below
import Derived.SizedLaws
import Derived.Carry
/- The law of Grant, of data. -/
set_option linter.unusedVariables false
set_option linter.unusedSimpArgs false
namespace Go.MC
open Go.MC.F

theorem first_nonneg {f : Use → Int} {l : List Use} (h : ∀ u, 0 ≤ f u) : 0 ≤ first f l := by
  unfold first
  cases l.find? fun u => f u != 0 with
  | none => exact Int.le_refl 0
  | some u => exact h u
theorem stuffU_nonneg (b : Book) (w : Want) (u : Use) : 0 ≤ stuffU b w u := by
  unfold stuffU
  cases u.2.1 == 2 <;> cases clash b w.2.2.1 (spotAt b u.1).2.2.2.2 <;> cases decide ((unionN (spotAt b u.1).2.2.2.2 w.2.2.1 : Int) > 8) <;> cases (spotAt b u.1).2.2.2.2.all (fun x => w.2.2.1.contains x) <;> decide
theorem amountU_nonneg (b : Book) (w : Want) (u : Use) : 0 ≤ amountU b w u := by
  unfold amountU
  cases u.2.1 == 1 && decide ((spotAt b u.1).2.2.1 < u.2.2) <;> cases u.2.1 == 2 && decide (IntKind.i64.wrap ((spotAt b u.1).2.2.2.1 + u.2.2) > (spotAt b u.1).2.1) <;> cases w.2.1 == 2 && decide ((spotAt b u.1).2.2.2.1 > 0) <;> decide
theorem stuffs_nonneg (b : Book) (w : Want) : 0 ≤ stuffs b w := by
  unfold stuffs
  cases clash b w.2.2.1 w.2.2.1 with
  | true => exact (by decide : (0 : Int) ≤ 8)
  | false =>
    cases w.2.1 == 1 with
    | true => exact first_nonneg (stuffU_nonneg b w)
    | false => exact Int.le_refl 0
theorem amounts_nonneg (b : Book) (w : Want) : 0 ≤ amounts b w := first_nonneg (amountU_nonneg b w)
theorem code_facts (b : Book) (w : Want) : 0 ≤ codeB b w ∧ (5 ≤ codeB b w → partAt b w.1 < 0) ∧ (codeB b w ≠ 1 → bookOk b = true) ∧ (codeB b w = 0 → wantOk w = true ∧ knowsB b w = true) ∧ (codeB b w = 0 → partAt b w.1 < 0 → (b.2.2.2.1.length : Int) < 6) := by
  unfold codeB
  cases bookOk b with
  | false => exact ⟨(by decide : (0 : Int) ≤ 1), fun h => absurd h (by decide : ¬ (5 : Int) ≤ 1), fun h => absurd rfl h, fun h => absurd h (by decide : ¬ (1 : Int) = 0), fun h => absurd h (by decide : ¬ (1 : Int) = 0)⟩
  | true =>
    cases wantOk w with
    | false => exact ⟨(by decide : (0 : Int) ≤ 2), fun h => absurd h (by decide : ¬ (5 : Int) ≤ 2), fun _ => rfl, fun h => absurd h (by decide : ¬ (2 : Int) = 0), fun h => absurd h (by decide : ¬ (2 : Int) = 0)⟩
    | true =>
      cases knowsB b w with
      | false => exact ⟨(by decide : (0 : Int) ≤ 2), fun h => absurd h (by decide : ¬ (5 : Int) ≤ 2), fun _ => rfl, fun h => absurd h (by decide : ¬ (2 : Int) = 0), fun h => absurd h (by decide : ¬ (2 : Int) = 0)⟩
      | true =>
        simp only [Bool.not_true, cond_false]
        by_cases hp : partAt b w.1 ≥ 0
        · rw [decide_eq_true hp, cond_true]
          cases sameW (partG b w.1).1 w with
          | true => exact ⟨(by decide : (0 : Int) ≤ 0), fun h => absurd h (by decide : ¬ (5 : Int) ≤ 0), fun _ => trivial, fun _ => ⟨trivial, trivial⟩, fun _ h => by omega⟩
          | false => exact ⟨(by decide : (0 : Int) ≤ 3), fun h => absurd h (by decide : ¬ (5 : Int) ≤ 3), fun _ => trivial, fun _ => ⟨trivial, trivial⟩, fun _ h => by omega⟩
        · rw [decide_eq_false hp, cond_false]
          refine ⟨?_, fun _ => by omega, fun _ => trivial, fun _ => ⟨trivial, trivial⟩, fun h0 _ => ?_⟩
          · have h1 := stuffs_nonneg b w
            have h2 := amounts_nonneg b w
            cases decide (w.1 ≤ b.2.2.2.2) with
            | true => exact (by decide : (0 : Int) ≤ 4)
            | false =>
              cases decide ((b.2.2.2.1.length : Int) ≥ 6) with
              | true => exact (by decide : (0 : Int) ≤ 5)
              | false =>
                cases b.2.2.2.1.any (fun p => share p.1 w) with
                | true => exact (by decide : (0 : Int) ≤ 6)
                | false =>
                  cases b.2.2.2.1.any (fun p => cross p.1 w) with
                  | true => exact (by decide : (0 : Int) ≤ 7)
                  | false =>
                    cases stuffs b w != 0 with
                    | true => exact h1
                    | false => exact h2
          · by_cases h6 : (b.2.2.2.1.length : Int) ≥ 6
            · rw [decide_eq_true h6] at h0
              cases h4 : decide (w.1 ≤ b.2.2.2.2) with
              | true => rw [h4] at h0; exact absurd h0 (by decide : ¬ (4 : Int) = 0)
              | false => rw [h4] at h0; exact absurd h0 (by decide : ¬ (5 : Int) = 0)
            · omega
def grantB (b : Book) (w : Want) : Book × Int :=
  bif codeB b w == 1 then (([], [], [], [], 0), 1) else
  bif inB (codeB b w) 2 4 then (b, codeB b w) else
  bif decide (partAt b w.1 ≥ 0) then (b, codeB b w) else
  bif codeB b w == 0 then (putB b w, codeB b w) else ((b.1, b.2.1, b.2.2.1, b.2.2.2.1, w.1), codeB b w)
theorem spots_nms {b : Book} (h : bookOk b = true) : ∀ s ∈ b.2.1, nmsOk s.2.2.2.2 8 = true := by
  intro s hs
  simp only [bookOk, spotsOk, Bool.and_eq_true] at h
  obtain ⟨i, hi⟩ := List.getElem?_of_mem hs
  have := allI_iff.1 h.2.2.2.1.2 i s hi
  simp only [spotI, spotOk, Bool.and_eq_true] at this
  exact this.1.2.2.2.2.1
theorem nms_len {l : List Txt} {n : Int} (h : nmsOk l n = true) : (l.length : Int) ≤ n := by
  unfold nmsOk at h
  simp only [Bool.and_eq_true, Bool.not_eq_true', decide_eq_false_iff_not] at h
  omega
theorem want_lens {w : Want} (h : wantOk w = true) : w.2.2.1.length ≤ 8 ∧ w.2.2.2.1.length ≤ 8 := by
  simp only [wantOk, usesOk, Bool.and_eq_true, Bool.not_eq_true', decide_eq_false_iff_not] at h
  have := nms_len h.2.2.2.2.2.2.2.2.1
  have := h.2.2.1.1
  omega
theorem fold_putI {b : Book} {w : Want} (h8 : w.2.2.1.length ≤ 8) (hx : ∀ x ∈ w.2.2.1, smT x) : ∀ (us : List Use) (i : Nat) (sp : List Spot), PutI b i sp → PutI b (i + us.length) (us.foldl (putS w) sp)
  | [], i, sp, h => h
  | u :: us, i, sp, h => by
    have := fold_putI h8 hx us (i + 1) (putS w sp u) (h.step u h8 hx)
    rw [List.foldl_cons, List.length_cons, show i + (us.length + 1) = i + 1 + us.length by omega]
    exact this
theorem put_sm {b : Book} {w : Want} (hb : smB b) (hw : smW w) (hs : bookOk b = true) (hwk : wantOk w = true) (h6 : (b.2.2.2.1.length : Int) < 6) : smB (putB b w) := by
  obtain ⟨h8, hu⟩ := want_lens hwk
  have := fold_putI h8 hw.1.2 w.2.2.2.1 0 b.2.1 (putI0 hb (spots_nms hs))
  refine ⟨hb.1, ⟨?_, fun s h => ?_⟩, hb.2.2.1, ?_, fun p h => ?_⟩
  · show (w.2.2.2.1.foldl (putS w) b.2.1).length ≤ _
    rw [this.len]; exact hb.2.1.1
  · obtain ⟨h1, h2, h3, h4⟩ := this.good s h
    exact ⟨h1, by omega, h3⟩
  · show (b.2.2.2.1 ++ [(w, false)]).length ≤ _
    simp; omega
  · rcases List.mem_append.1 (show p ∈ b.2.2.2.1 ++ [(w, false)] from h) with h | h
    · exact hb.2.2.2.2 p h
    · obtain rfl := List.mem_singleton.1 h
      exact hw
theorem seen_sm {b : Book} (hb : smB b) (n : Int) : smB (b.1, b.2.1, b.2.2.1, b.2.2.2.1, n) := hb
theorem specGrant {N : Nat} (hN : lim < N) {b : Book} {w : Want} (hb : smB b) (hw : smW w) : spec_ClaimGrant N b w = some (grantB b w) := by
  obtain ⟨f1, f2, f3, f4, f5⟩ := code_facts b w
  unfold spec_ClaimGrant grantB
  rw [ob_eq (specCode hN hb hw)]
  cases h1 : codeB b w == 1 with
  | true => rfl
  | false =>
    simp only [cond_false]
    rw [ob_eq (l2Copy hN hb), ob_eq (l1In _ _ _)]
    cases inB (codeB b w) 2 4 with
    | true => rfl
    | false =>
      simp only [cond_false]
      rw [ob_eq (l2Part hN hb _)]
      by_cases hp : partAt b w.1 ≥ 0
      · rw [decide_eq_true hp]; rfl
      · rw [decide_eq_false hp]
        simp only [cond_false]
        cases h0 : codeB b w == 0 with
        | true =>
          have e0 : codeB b w = 0 := beq_iff_eq.1 h0
          obtain ⟨g1, g2⟩ := f4 e0
          have g3 := f3 (by omega)
          have g6 := f5 e0 (by omega)
          obtain ⟨l1, l2⟩ := want_lens g1
          simp only [cond_true]
          rw [ob_eq (l3Put hN hb hw (spots_nms g3) g2 l1 l2), ob_eq (l2Copy hN (put_sm hb hw g3 g1 g6))]
        | false =>
          simp only [cond_false]
          rw [ob_eq (l2Copy hN (seen_sm hb _))]
theorem implGrant {N : Nat} (hN : lim < N) {b : Book} {w : Want} (hb : smB b) (hw : smW w) : impl_ClaimGrant N b w = some (grantB b w) := by
  obtain ⟨f1, f2, f3, f4, f5⟩ := code_facts b w
  have hlim := lim_eq
  unfold impl_ClaimGrant impl_ClaimGrantb grantB
  rw [ob_eq (implCode hN hb hw)]
  cases h1 : codeB b w == 1 with
  | true => rfl
  | false =>
    have n1 : codeB b w ≠ 1 := beq_eq_false_iff_ne.1 h1
    simp only [cond_false]
    rw [ob_eq (implCopy hN hb)]
    by_cases h5 : codeB b w ≥ 5
    · rw [decide_eq_true h5]
      have e0 : (codeB b w == 0) = false := beq_eq_false_iff_ne.2 (by omega)
      have e1 : (codeB b w != 0) = true := by simp [bne, e0]
      have e2 : inB (codeB b w) 2 4 = false := by unfold inB; rw [decide_eq_false (show ¬ codeB b w ≤ 4 by omega)]; simp
      have e3 : decide (partAt b w.1 ≥ 0) = false := decide_eq_false (by have := f2 h5; omega)
      simp only [e0, e1, e2, e3, cond_true, cond_false]
    · rw [decide_eq_false h5]
      cases h0 : codeB b w == 0 with
      | false =>
        have n0 : codeB b w ≠ 0 := beq_eq_false_iff_ne.1 h0
        have e1 : (codeB b w != 0) = true := by simp [bne, h0]
        have e2 : inB (codeB b w) 2 4 = true := by unfold inB; rw [decide_eq_true (show codeB b w ≤ 4 by omega), decide_eq_true (show codeB b w ≥ 2 by omega)]; rfl
        simp only [e1, e2, cond_true, cond_false]
      | true =>
        have e0 : codeB b w = 0 := beq_iff_eq.1 h0
        have e1 : (codeB b w != 0) = false := by simp [bne, h0]
        have e2 : inB (codeB b w) 2 4 = false := by unfold inB; rw [decide_eq_false (show ¬ codeB b w ≥ 2 by omega)]; rfl
        simp only [e1, e2, cond_true, cond_false]
        rw [ob_eq (implPart hN hb _)]
        by_cases hp : partAt b w.1 ≥ 0
        · rw [decide_eq_true hp]; rfl
        · rw [decide_eq_false hp]
          obtain ⟨g1, g2⟩ := f4 e0
          have g3 := f3 (by omega)
          have g6 := f5 e0 (by omega)
          obtain ⟨l1, l2⟩ := want_lens g1
          simp only [cond_false]
          rw [ob_eq (implCopyWant hw)]
          have hg : decide ((List.length b.2.2.2.1 + [(w, false)].length) * 120 ≤ lim) = true := decide_eq_true (by simp only [List.length_cons, List.length_nil]; omega)
          rw [hg, cond_true, implPut hN hb hw (spots_nms g3) g2 l1 l2, e0]
theorem sm_none : smB ([], [], [], [], 0) := by
  simp [smB, smL]
theorem grant_sm {b : Book} {w : Want} (hb : smB b) (hw : smW w) : smB (grantB b w).1 := by
  obtain ⟨f1, f2, f3, f4, f5⟩ := code_facts b w
  unfold grantB
  cases h1 : codeB b w == 1 with
  | true => exact sm_none
  | false =>
    cases inB (codeB b w) 2 4 with
    | true => exact hb
    | false =>
      by_cases hp : partAt b w.1 ≥ 0
      · rw [decide_eq_true hp]; exact hb
      · rw [decide_eq_false hp]
        cases h0 : codeB b w == 0 with
        | true =>
          have e0 : codeB b w = 0 := beq_iff_eq.1 h0
          obtain ⟨g1, g2⟩ := f4 e0
          exact put_sm hb hw (f3 (by omega)) g1 (f5 e0 (by omega))
        | false => exact hb
/-- What marks the want. -/
def cW (w : Want) : Nat := w.2.2.1.length + w.2.2.2.1.length * 3 + w.2.2.2.2.1.length + w.2.2.2.2.2.length
def mkWT (N : Nat) (w : Want) (k : Int) : List Txt × List Use × List Txt × List Txt :=
  (mkTs N w.2.2.1 k, mkU N w.2.2.2.1 (k + w.2.2.1.length), mkTs N w.2.2.2.2.1 (k + w.2.2.1.length + ((w.2.2.2.1.length * 3 : Nat) : Int)), mkTs N w.2.2.2.2.2 (k + w.2.2.1.length + ((w.2.2.2.1.length * 3 : Nat) : Int) + w.2.2.2.2.1.length))
theorem markClaimWant {N : Nat} (hN : lim < N) {w : Want} (h : smW w) {k : Int} (h0 : 0 ≤ k) (h1 : k ≤ 90000000000001) : laws_markClaimWant N w.1 w.2.1 w.2.2.1 w.2.2.2.1 w.2.2.2.2.1 w.2.2.2.2.2 k = some (k + cW w, mkWT N w k) := by
  have hm := mB_eq
  have l1 : w.2.2.1.length ≤ 1048576 := h.1.1
  have l2 : w.2.2.2.1.length ≤ 1048576 := h.2.1.1
  have l3 : w.2.2.2.2.1.length ≤ 1048576 := h.2.2.1.1
  have l4 : w.2.2.2.2.2.length ≤ 1048576 := h.2.2.2.1
  unfold laws_markClaimWant
  rw [ob_eq (markStringS hN l1 h0 (by omega))]
  simp only
  rw [ob_eq (markClaimUseS hN l2 (by omega) (by omega))]
  simp only
  rw [ob_eq (markStringS hN l3 (by omega) (by omega))]
  simp only
  rw [ob_eq (markStringS hN l4 (by omega) (by omega))]
  unfold cW mkWT
  rw [show k + (w.2.2.1.length : Int) + ((w.2.2.2.1.length * 3 : Nat) : Int) + (w.2.2.2.2.1.length : Int) + (w.2.2.2.2.2.length : Int) = k + ((w.2.2.1.length + w.2.2.2.1.length * 3 + w.2.2.2.2.1.length + w.2.2.2.2.2.length : Nat) : Int) by omega]
theorem lawGrant {N : Nat} (hN : lim < N) {b : Book} {w : Want} (hb : fitB b) (hw : fitW w) : laws_FnExactClaimGrant N b w = some true := by
  obtain ⟨r, h1, h2, h3, h4⟩ := szClaimBook hN hb (left := 1048576) (by omega) (by omega)
  unfold laws_FnExactClaimGrant
  rw [ob_eq h1]
  by_cases hn : r < 0
  · rw [decide_eq_true hn]; rfl
  · rw [decide_eq_false hn]
    obtain ⟨r', g1, g2, g3, g4⟩ := szClaimWant hN hw (left := r) (by omega) (by omega)
    simp only [cond_false]
    rw [ob_eq g1]
    by_cases hn' : r' < 0
    · rw [decide_eq_true hn']; rfl
    · rw [decide_eq_false hn']
      have hs := h4 (by omega)
      have ht := g4 (by omega)
      have hm := mB_eq
      have hg := grant_sm hs ht
      have hc := cB_le hs
      simp only [cond_false, ob_eq (toClaimBook hN hs), ob_eq (toClaimWant hN ht), ob_eq (specGrant hN hs ht), ob_eq (implGrant hN hs ht), ob_eq (eqClaimBook hN hs), ob_eq (eqClaimWant hN ht), ob_eq (eqClaimBook hN hg), ob_eq (markClaimBook hN hs (show (0 : Int) ≤ 1 by omega) (show (1 : Int) ≤ 1000000000000 by omega)), ob_eq (markClaimWant hN ht (show (0 : Int) ≤ 1 + (cB b : Int) by omega) (show (1 : Int) + (cB b : Int) ≤ 90000000000001 by omega)), nneg (show (0 : Int) ≤ 1 + (cB b : Int) + (cW w : Int) by omega), ob_eq (markClaimBook hN hg (show (0 : Int) ≤ 1 by omega) (show (1 : Int) ≤ 1000000000000 by omega)), ob_eq (heldClaimBook hN hg (show (0 : Int) ≤ 1 by omega) (show (1 : Int) ≤ 1000000000000 by omega) _), nneg (show (0 : Int) ≤ 1 + (cB (grantB b w).1 : Int) by omega), bne_self_eq_false, Bool.not_true, Bool.false_eq_true]
end Go.MC

/- The law FnExactClaimGrant returns true on every input: what the program tells is what the document tells, by the contracts of all functions that it reaches and a proof in plain Lean. There is no condition. -/
namespace Go.Proofs.YtaihjhaabnfenaaGreat.fnExactClaimGrant
open Go.ChangeShapes Go.WideShapes Go.ChangeAt Go.RowKit Go.MC
open Go.ChangeMaps (open_string shut_string)
set_option linter.unusedVariables false
theorem own : ownKnob Tryz.prog.godebug = none := by kernel_rfl
theorem laidOut : laidOutB Tryz.prog = true := by kernel_rfl
set_option maxRecDepth 100000 in
theorem lifted (os : Os) (started : os.Started) (H : Type) (enc : TypeId × Value → H) :
    ReturnsInHanded {} Tryz.checked os 10 .any (Rows.fnExactClaimGrantSpec.pre6 enc Tryz.prog Tryz.f10 Rows.fnExactClaimGrantRow.domain false) (Rows.fnExactClaimGrantSpec.post enc Tryz.prog Tryz.f10 false true false false) := by
  refine returnsInHanded_of_change_sized (C := Tryz.checked) own started (by kernel_rfl) Tryz.func10
    (ChangeSpec.witness6 (enc := enc) (C := Tryz.checked) false ⟨#[], #[.agg #[.slice none 0 0, .slice none 0 0, .slice none 0 0, .slice none 0 0, .int .i64 0], .agg #[.int .i64 0, .int .i64 0, .slice none 0 0, .slice none 0 0, .slice none 0 0, .slice none 0 0]], []⟩ 8 (by kernel_rfl) (by kernel_rfl) (by kernel_rfl) (by kernel_rfl)) ?_
  intro W base args ds gs before hval0 hW hcnd hsz0 _
  have hsz : (DataW.weightsEach Tryz.prog (Tryz.f10.params.toList ++ Rows.fnExactClaimGrantSpec.plain.varTypes Tryz.prog) (ds ++ gs)).all (· ≤ reachBytes) = true := hsz0
  have hval : ∀ (j : Nat) t v, Tryz.f10.params[j]? = some t → args[j]? = some v → Value.okWide Tryz.prog W .any base t v := hval0
  have hW' := hW
  obtain ⟨p, q, hA0, hV, rfl, hfz, hnd⟩ := hW
  have hA : DataW.TrodAll enc Tryz.prog W 0 (fun _ => true) true Tryz.f10.params.toList args.toList ds p := hA0
  rw [Tryz.params10] at hA hval hsz
  obtain ⟨v0, vs0, d0, ds0, p0, q0, hargs, rfl, rfl, h0, r0⟩ := trodAll_cons hA
  obtain ⟨v1, vs1, d1, ds1, p1, q1, rfl, rfl, rfl, h1, r1⟩ := trodAll_cons r0
  obtain ⟨rfl, rfl, rfl⟩ := trodAll_nil r1
  obtain rfl : args = #[v0, v1] := by cases args; simp_all
  obtain ⟨rfl, rfl⟩ := trodVars_none hV
  have lt0 : ∀ x ∈ p0, x.block < W.heap.size := by obtain ⟨m, hm⟩ := h0; exact DataW.trod_lt m _ _ _ hm
  obtain ⟨x0, cs0, hx0, hs0⟩ := arg_rd (n := 12) (t := tBook) (by kernel_rfl) (hval 0 56 v0 rfl rfl) h0 hsz (j := 0) rfl rfl
  have lt1 : ∀ x ∈ p1, x.block < W.heap.size := by obtain ⟨m, hm⟩ := h1; exact DataW.trod_lt m _ _ _ hm
  obtain ⟨x1, cs1, hx1, hs1⟩ := arg_rd (n := 12) (t := tWant) (by kernel_rfl) (hval 1 73 v1 rfl rfl) h1 hsz (j := 1) rfl rfl
  clear hA0 hval0 hsz0 hsz
  have law : F.laws_FnExactClaimGrant (lim + 1) x0 x1 = some true := lawGrant (N := lim + 1) (Nat.lt_succ_self _) (fit_book hx0.fit) (fit_want hx1.fit)
  have hout := summ_out2 (f := F.laws_FnExactClaimGrant (lim + 1)) law (rs := [.d .bool false]) (ts := [.bool]) (fz := false) (a := true) (b := true) (t := tBook) (u := tWant) (x := x0) (y := x1) (r := true)
  refine (law_calls (con_laws_FnExactClaimGrant (lim + 1)) (args := [v0, v1]) (ds := [⟨tBook, x0⟩, ⟨tWant, x1⟩]) ⟨v0, [v1], [v1], rfl, rfl, ⟨v1, [], [], rfl, rfl, ⟨rfl, rfl⟩⟩⟩
    ⟨v0, [v1], x0, [⟨tWant, x1⟩], cs0, rfl, rfl, hx0, hs0, ⟨v1, [], x1, [], cs1, rfl, rfl, hx1, hs1, ⟨rfl, rfl, rfl, rfl⟩⟩⟩ hout.1 hout.2 rfl).mono fun e W' ⟨he, bel⟩ => ?_
  subst he
  exact ⟨_, rfl, _, _, _, [], _, [], hW', trodAll_mk1 (shut_bool Tryz.underlying4 _), (trodAll_cons_mk (Below.trod laidOut (by kernel_rfl) (of_decide_eq_true (by kernel_rfl)) h0 bel lt0) (trodAll_cons_mk (Below.trod laidOut (by kernel_rfl) (of_decide_eq_true (by kernel_rfl)) h1 bel lt1) trodAll_mk0)), rfl, bel.frame _, fun h => by cases h⟩
theorem over : Rows.fnExactClaimGrantRow.holds Tryz.pinned (OpenSpec.ofChange Rows.fnExactClaimGrantSpec) :=
  OpenClaim.holds_of_wide 10 Tryz.f10 rfl rfl rfl rfl rfl rfl rfl ⟨rfl, rfl, rfl, rfl, rfl⟩ rfl rfl rfl rfl rfl (by kernel_rfl) Tryz.func10 (by kernel_rfl)
    (of_decide_eq_true (by kernel_rfl)) (by unfold Func.isWrapper; first | (rw [if_pos (by decide +kernel)]; kernel_rfl) | (rw [if_neg (by decide +kernel)]; exact ⟨rfl, rfl⟩))
    (fun os started H enc _ => lifted os started H enc)
theorem proved : Rows.FnExactClaimGrantSaid := over
#print axioms proved
end Go.Proofs.YtaihjhaabnfenaaGreat.fnExactClaimGrant
namespace Go.Proofs.YtaihjhaabnfenaaGreat
/-- The row, under a short name, for the claim. -/
theorem fnExactClaimGrant_holds : Rows.FnExactClaimGrantSaid := fnExactClaimGrant.proved
end Go.Proofs.YtaihjhaabnfenaaGreat


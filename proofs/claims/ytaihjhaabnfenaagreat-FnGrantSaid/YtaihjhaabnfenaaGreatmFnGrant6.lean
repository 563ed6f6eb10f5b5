/- The law FnGrant returns true on every input: what the program tells is what the document tells, by the contracts of all functions that it reaches and a proof in plain Lean. There is no condition. -/
import Derived.Test.YtaihjhaabnfenaaGreatmFnGrant5
import Derived.Test.YtaihjhaabnfenaaGreatRows
import Derived.Test.YtaihjhaabnfenaaGreatmFnGrant2
import Derived.Test.YtaihjhaabnfenaaGreatmFnGrant4
import Derived.WalkKit
import Derived.ProofKit
import Derived.OpenShut
import Derived.ShutString
import Derived.ChangeOld
import Derived.Below
import Derived.SizedLaws
import Derived.Carry
set_option linter.unusedVariables false
set_option linter.unusedSimpArgs false
namespace Go.MC
open Go.MC.F
theorem gTrue {o : Option Bool} (h : Gives o (· = true)) : o = some true := by obtain ⟨r, e, rfl⟩ := h; exact e
theorem pp_at {b : Book} (o : OkB b) {i j : Nat} (hi : i < b.2.2.2.1.length) (hj : j < b.2.2.2.1.length) (hne : i ≠ j) : share b.2.2.2.1[i].1 b.2.2.2.1[j].1 = false ∧ cross b.2.2.2.1[i].1 b.2.2.2.1[j].1 = false := by
  have hpw := List.pairwise_iff_getElem.1 o.pp
  rcases Nat.lt_or_gt_of_ne hne with c | c
  · have := (hpw i j (by simpa using hi) (by simpa using hj) c).2
    simp only [List.getElem_map] at this
    rwa [share_comm, cross_comm]
  · have := (hpw j i (by simpa using hj) (by simpa using hi) c).2
    simpa only [List.getElem_map] using this
theorem po_at {b : Book} (o : OkB b) {i : Nat} (hi : i < b.2.2.2.1.length) : wantIn b b.2.2.2.1[i].1 := o.po _ (List.mem_map.2 ⟨_, List.getElem_mem hi, rfl⟩)
def usesB (w : Want) (n : Txt) : Bool := w.2.2.2.1.any fun u => u.1 == n
theorem wUses {N : Nat} (hN : lim < N) {w : Want} (hw : smW w) (n : Txt) : f_106 N w n = some (usesB w n) := by
  have hlim := lim_eq
  have hu := hw.2.1.1
  unfold f_106 f_106b usesB
  refine (lp_allI w.2.2.2.1 _ (fun _ u => !(u.1 == n)) (some true) (some false) (fun g i hi => ?_) (fun g => ?_) N (by omega)).trans ?_
  · unfold f_106_0r
    simp only [dlt hi, dge, gAt hi, cond_true, wrS (show i ≤ 1000000000000000000 by omega)]
    cases w.2.2.2.1[i].1 == n <;> rfl
  · unfold f_106_0r
    rw [dnlt]; rfl
  · rw [allI_all, not_any]
    cases w.2.2.2.1.any fun u => u.1 == n <;> rfl
theorem uses_share {v w : Want} {n : Txt} (hv : usesB v n = true) (hw : usesB w n = true) : share v w = true := by
  obtain ⟨u, hu, e⟩ := List.any_eq_true.1 hv
  obtain ⟨x, hx, f⟩ := List.any_eq_true.1 hw
  exact List.any_eq_true.2 ⟨u, hu, List.any_eq_true.2 ⟨x, hx, by rw [beq_iff_eq] at e f ⊢; rw [e, f]⟩⟩
theorem open_cross {v w : Want} {n : Txt} (hv : v.2.2.2.2.1.contains n = true) (hw : w.2.2.2.2.1.contains n = true ∨ w.2.2.2.2.2.contains n = true) : cross v w = true := by
  unfold cross
  simp only [Bool.or_eq_true]
  rcases hw with h | h
  · exact .inl (List.any_eq_true.2 ⟨n, by simpa using hv, h⟩)
  · exact .inr (.inl (List.any_eq_true.2 ⟨n, by simpa using hv, h⟩))
theorem open_own {w : Want} (h : wantOk w = true) {n : Txt} (h1 : w.2.2.2.2.1.contains n = true) : w.2.2.2.2.2.contains n = false := by
  cases h2 : w.2.2.2.2.2.contains n with
  | false => rfl
  | true =>
    simp only [wantOk, Bool.and_eq_true, Bool.not_eq_true'] at h
    have := h.2.2.2.2.2.1
    rw [List.any_eq_true.2 ⟨n, by simpa using h1, h2⟩] at this
    cases this
theorem wSafe {N : Nat} (hN : lim < N) {b : Book} (h : bookOk b = true) : f_105 N b = some true := by
  have hlim := lim_eq
  have o := bookOk_iff.1 h
  have hs := ok_sm h
  have l1 := hs.1.1
  have l2 := o.sl
  have l3 : b.2.2.1.length ≤ 12 := by have := nms_len o.valves; omega
  have l4 := o.pl
  refine gTrue ?_
  have valves : Gives (f_105_6 N b N 0) (· = true) := by
    refine lp_post b.2.2.1.length (fun (g : Int → Option Bool) i (_ : Unit) => g i) (z := fun _ => none) (rd := fun next => f_105_6r N (f_105_8 N next b) b next) (fun _ _ => True) (fun g i st hi _ on => ?_) (fun g st _ => ?_) (N := N) (st := ()) (by omega) trivial
    · unfold f_105_6r
      refine gIf (by omega) ?_
      refine lp_post b.2.2.2.1.length (fun (g : Int → Int → Int → Option Bool) k (s : Int × Int) => g s.1 s.2 k) (z := fun _ _ _ => none) (rd := fun next => f_105_8r N g b i next) (fun k s => (s.1 = 0 ∨ s.1 = 1 ∧ ∃ j, ∃ hj : j < b.2.2.2.1.length, j < k ∧ b.2.2.2.1[j].1.2.2.2.2.1.contains b.2.2.1[i] = true) ∧ (s.2 = 0 ∨ (0 ≤ s.2 ∧ s.2 ≤ k) ∧ ∃ j, ∃ hj : j < b.2.2.2.1.length, j < k ∧ b.2.2.2.1[j].1.2.2.2.2.2.contains b.2.2.1[i] = true))
        (fun g2 k s hk hv on2 => ?_) (fun g2 s hv => ?_) (N := N) (st := (0, 0)) (by omega) ⟨.inl rfl, .inl rfl⟩
      · have hw := (hs.2.2.2.2 _ (List.getElem_mem hk) : smW _)
        have lo : b.2.2.2.1[k].1.2.2.2.2.1.length ≤ lim := by have := hw.2.2.1.1; omega
        have lh : b.2.2.2.1[k].1.2.2.2.2.2.length ≤ lim := by have := hw.2.2.2.1; omega
        have k1 : ∀ {n : Int}, (n = 0 ∨ n = 1 ∧ ∃ j, ∃ hj : j < b.2.2.2.1.length, j < k ∧ b.2.2.2.1[j].1.2.2.2.2.1.contains b.2.2.1[i] = true) → (n = 0 ∨ n = 1 ∧ ∃ j, ∃ hj : j < b.2.2.2.1.length, j < k + 1 ∧ b.2.2.2.1[j].1.2.2.2.2.1.contains b.2.2.1[i] = true) := fun h => h.imp_right fun ⟨e, j, hj, a, c⟩ => ⟨e, j, hj, by omega, c⟩
        have k2 : ∀ {n : Int}, (n = 0 ∨ (0 ≤ n ∧ n ≤ k) ∧ ∃ j, ∃ hj : j < b.2.2.2.1.length, j < k ∧ b.2.2.2.1[j].1.2.2.2.2.2.contains b.2.2.1[i] = true) → (n = 0 ∨ (0 ≤ n ∧ n ≤ ((k + 1 : Nat) : Int)) ∧ ∃ j, ∃ hj : j < b.2.2.2.1.length, j < k + 1 ∧ b.2.2.2.1[j].1.2.2.2.2.2.contains b.2.2.1[i] = true) := fun h => h.imp_right fun ⟨e, j, hj, a, c⟩ => ⟨by omega, j, hj, by omega, c⟩
        have o1 : b.2.2.2.1[k].1.2.2.2.2.1.contains b.2.2.1[i] = true → s.1 = 0 := fun hc => by
          rcases hv.1 with e | ⟨e, j, hj, a, c⟩
          · exact e
          · have := (pp_at o hj hk (by omega)).2
            rw [open_cross c (.inl hc)] at this; cases this
        have o2 : 0 ≤ s.2 ∧ s.2 ≤ k := by rcases hv.2 with e | ⟨e, _⟩ <;> omega
        unfold f_105_8r
        simp only [wrS (show k ≤ 1000000000000000000 by omega), gAt hk, gAt hi, ob_eq (wHas hN lo _), ob_eq (wHas hN lh _)]
        refine gIf (by omega) (gIf (by omega) (gIf (by omega) (gIf (by omega) (gIf (by omega) (gBy (fun hc => gIf (by omega) (gIf (by omega) (gIf (by omega) (gIf (by omega) (gBy (fun hd => ?_) fun hd => ?_))))) fun hc => gIf (by omega) (gIf (by omega) (gIf (by omega) (gIf (by omega) (gBy (fun hd => ?_) fun hd => ?_)))))))))
        · rw [wr (n := s.1 + 1) (by have := o1 hc; omega) (by have := o1 hc; omega), wr (n := s.2 + 1) (by omega) (by omega)]
          exact on2 (s.1 + 1, s.2 + 1) ⟨.inr ⟨by have := o1 hc; show s.1 + 1 = 1; omega, k, hk, by omega, hc⟩, .inr ⟨⟨by show 0 ≤ s.2 + 1; omega, by show s.2 + 1 ≤ ((k + 1 : Nat) : Int); omega⟩, k, hk, by omega, hd⟩⟩
        · rw [wr (n := s.1 + 1) (by have := o1 hc; omega) (by have := o1 hc; omega)]
          exact on2 (s.1 + 1, s.2) ⟨.inr ⟨by have := o1 hc; show s.1 + 1 = 1; omega, k, hk, by omega, hc⟩, k2 hv.2⟩
        · rw [wr (n := s.2 + 1) (by omega) (by omega)]
          exact on2 (s.1, s.2 + 1) ⟨k1 hv.1, .inr ⟨⟨by show 0 ≤ s.2 + 1; omega, by show s.2 + 1 ≤ ((k + 1 : Nat) : Int); omega⟩, k, hk, by omega, hd⟩⟩
        · exact on2 s ⟨k1 hv.1, k2 hv.2⟩
      · unfold f_105_8r
        rw [wrS (show i ≤ 1000000000000000000 by omega)]
        refine gNot (by omega) (gNot (by rcases hv.1 with e | ⟨e, _⟩ <;> omega) (gDec (fun h1 => gNot ?_ (on () trivial)) fun _ => on () trivial))
        intro h2
        rcases hv.1 with e | ⟨e, j, hj, a, c⟩
        · omega
        · rcases hv.2 with e | ⟨e, k, hk, a2, c2⟩
          · omega
          · by_cases hjk : j = k
            · subst hjk
              rw [open_own (po_at o hj).2.1 c] at c2; cases c2
            · have := (pp_at o hj hk hjk).2
              rw [open_cross c (.inr c2)] at this; cases this
    · unfold f_105_6r
      exact gNot (by omega) (.some rfl)
  refine lp_post b.2.1.length (fun (g : Int → Option Bool) i (_ : Unit) => g i) (z := fun _ => none) (rd := fun next => f_105_0r N (f_105_2 N next b) (f_105_6 N) b next) (fun _ _ => True) (fun g i st hi _ on => ?_) (fun g st _ => ?_) (N := N) (st := ()) (by omega) trivial
  · have hsp := spotOk_iff.1 (o.so _ (List.getElem_mem hi))
    unfold f_105_0r
    simp only [gAt hi]
    refine gIf (by omega) (gIf (by omega) (gIf (by omega) ?_))
    refine lp_post b.2.2.2.1.length (fun (g : Int → Int → Option Bool) k (s : Int) => g s k) (z := fun _ _ => none) (rd := fun next => f_105_2r N (f_105_4 N g b) g b i b.2.1[i].1 b.2.1[i].2.1 b.2.1[i].2.2.1 b.2.1[i].2.2.2.1 b.2.1[i].2.2.2.2 next) (fun k s => s = 0 ∨ s = 1 ∧ ∃ j, ∃ hj : j < b.2.2.2.1.length, j < k ∧ usesB b.2.2.2.1[j].1 b.2.1[i].1 = true)
      (fun g2 k s hk hv on2 => ?_) (fun g2 s hv => ?_) (N := N) (st := 0) (by omega) (.inl rfl)
    · unfold f_105_2r
      simp only [wrS (show k ≤ 1000000000000000000 by omega), gAt hk, ob_eq (wUses hN (hs.2.2.2.2 _ (List.getElem_mem hk)) _)]
      refine gIf (by omega) (gIf (by omega) (gIf (by omega) (gBy (fun hc => ?_) fun hc => on2 s (hv.imp_right fun ⟨e, j, hj, a, c⟩ => ⟨e, j, hj, by omega, c⟩))))
      have hz : s = 0 := by
        rcases hv with e | ⟨e, j, hj, a, c⟩
        · exact e
        · have := (pp_at o hj hk (by omega)).1
          rw [uses_share c hc] at this; cases this
      subst hz
      exact on2 1 (.inr ⟨rfl, k, hk, by omega, hc⟩)
    · unfold f_105_2r
      refine gNot (by omega) (gNot (by rcases hv with e | ⟨e, _⟩ <;> omega) (gNot (by omega) (gNot (by omega) (gNot (by omega) ?_))))
      have hm : b.2.1[i].2.2.2.2.length ≤ lim := by have := (hs.2.1.2 _ (List.getElem_mem hi)).2.1; omega
      refine lp_post b.1.length (fun (g : Int → Option Bool) k (_ : Unit) => g k) (z := fun _ => none) (rd := fun next => f_105_4r N g b i b.2.1[i].1 b.2.1[i].2.1 b.2.1[i].2.2.1 b.2.1[i].2.2.2.1 b.2.1[i].2.2.2.2 next) (fun _ _ => True) (fun g3 k st hk _ on3 => ?_) (fun g3 st _ => ?_) (N := N) (st := ()) (by omega) trivial
      · unfold f_105_4r
        simp only [wrS (show k ≤ 1000000000000000000 by omega), gAt hk, ob_eq (wHas hN hm _)]
        refine gIf (by omega) (gIf (by omega) (gIf (by omega) (gBy (fun h1 => gIf (by omega) (gIf (by omega) (gBy (fun h2 => ?_) fun _ => on3 () trivial))) fun _ => on3 () trivial)))
        exact absurd ⟨by simpa using h1, by simpa using h2⟩ (clash_no.1 hsp.2.2.2.2 _ (List.getElem_mem hk)).1
      · unfold f_105_4r
        rw [wrS (show i ≤ 1000000000000000000 by omega)]
        exact gNot (by omega) (on () trivial)
  · unfold f_105_0r
    exact gNot (by omega) valves
end Go.MC

set_option linter.unusedVariables false
set_option linter.unusedSimpArgs false
namespace Go.MC
open Go.MC.F
theorem wTexts {N : Nat} (hN : lim < N) {a : List Txt} (h : a.length ≤ 1048576) : f_83 N a a = some true := by
  have hlim := lim_eq
  unfold f_83 f_83b
  simp only [bne_self_eq_false, cond_false]
  refine (lp_allI a _ (fun _ _ => true) (some false) (some true) (fun g i hi => ?_) (fun g => ?_) N (by omega)).trans ?_
  · unfold f_83_0r
    simp only [dlt hi, dge, gAt hi, cond_true, wrS (show i ≤ 1000000000000000000 by omega), beq_self_eq_true, Bool.not_true, cond_false]
  · unfold f_83_0r
    rw [dnlt]; rfl
  · rw [show allI (fun _ (_ : Txt) => true) 0 a = true from allI_iff.2 fun _ _ _ => rfl]; rfl
theorem wWant {N : Nat} (hN : lim < N) {w : Want} (h : smW w) : f_107 N w w = some true := by
  have hlim := lim_eq
  have hu := h.2.1.1
  unfold f_107 f_107b
  simp only [bne_self_eq_false, cond_false, ob_eq (wTexts hN h.1.1), ob_eq (wTexts hN h.2.2.1.1), ob_eq (wTexts hN h.2.2.2.1), Bool.not_true]
  refine (lp_allI w.2.2.2.1 _ (fun _ _ => true) (some false) (some true) (fun g i hi => ?_) (fun g => ?_) N (by omega)).trans ?_
  · unfold f_107_0r
    simp only [dlt hi, dge, gAt hi, cond_true, wrS (show i ≤ 1000000000000000000 by omega), beq_self_eq_true, Bool.and_self, Bool.not_true, cond_false]
  · unfold f_107_0r
    rw [dnlt]; rfl
  · rw [show allI (fun _ (_ : Use) => true) 0 w.2.2.2.1 = true from allI_iff.2 fun _ _ _ => rfl]; rfl
theorem wBook {N : Nat} (hN : lim < N) {b : Book} (h : smB b) : f_101 N b b = some true := by
  have hlim := lim_eq
  have h1 := h.1.1
  have h2 := h.2.1.1
  have h4 := h.2.2.2.1
  unfold f_101 f_101b
  simp only [bne_self_eq_false, cond_false, ob_eq (wTexts hN h.2.2.1.1), Bool.not_true]
  have k4 : f_101_4 N b b N 0 = some true := by
    refine (lp_allI b.2.2.2.1 _ (fun _ _ => true) (some false) (some true) (fun g i hi => ?_) (fun g => ?_) N (by omega)).trans ?_
    · unfold f_101_4r
      simp only [dlt hi, dge, gAt hi, cond_true, wrS (show i ≤ 1000000000000000000 by omega), beq_self_eq_true, Bool.not_true, cond_false, ob_eq (wWant hN (h.2.2.2.2 _ (List.getElem_mem hi)))]
    · unfold f_101_4r
      rw [dnlt]; rfl
    · rw [show allI (fun _ (_ : Part) => true) 0 b.2.2.2.1 = true from allI_iff.2 fun _ _ _ => rfl]; rfl
  have k2 : f_101_2 N b b N 0 = some true := by
    refine (lp_allI b.2.1 _ (fun _ _ => true) (some false) (some true) (fun g i hi => ?_) (fun g => ?_) N (by omega)).trans ?_
    · unfold f_101_2r
      simp only [dlt hi, dge, gAt hi, cond_true, wrS (show i ≤ 1000000000000000000 by omega), beq_self_eq_true, bne_self_eq_false, Bool.not_true, cond_false, ob_eq (wTexts hN (h.2.1.2 _ (List.getElem_mem hi)).2.1)]
    · unfold f_101_2r
      rw [dnlt]; exact k4
    · rw [show allI (fun _ (_ : Spot) => true) 0 b.2.1 = true from allI_iff.2 fun _ _ _ => rfl]; rfl
  refine (lp_allI b.1 _ (fun _ _ => true) (some false) (some true) (fun g i hi => ?_) (fun g => ?_) N (by omega)).trans ?_
  · unfold f_101_0r
    simp only [dlt hi, dge, gAt hi, cond_true, wrS (show i ≤ 1000000000000000000 by omega), beq_self_eq_true, Bool.and_self, Bool.not_true, cond_false]
  · unfold f_101_0r
    rw [dnlt]; exact k2
  · rw [show allI (fun _ (_ : Foe) => true) 0 b.1 = true from allI_iff.2 fun _ _ _ => rfl]; rfl
def wantOf (b : Book) (n : Int) : Want := ((b.2.2.2.1.find? fun p => p.1.1 == n).map (·.1)).getD dWant
theorem wPart {N : Nat} (hN : lim < N) {b : Book} (h : smB b) (n : Int) : f_103 N b n = some (wantOf b n) := by
  have hlim := lim_eq
  have h4 := h.2.2.2.1
  unfold f_103 f_103b wantOf
  refine lp_find b.2.2.2.1 _ (fun p : Part => p.1.1 == n) (·.1) dWant (fun g i hi => ?_) (fun g => ?_) N (by omega)
  · unfold f_103_0r
    simp only [dlt hi, dge, gAt hi, cond_true, wrS (show i ≤ 1000000000000000000 by omega)]
  · unfold f_103_0r
    rw [dnlt]; rfl
end Go.MC

set_option linter.unusedVariables false
set_option linter.unusedSimpArgs false
namespace Go.MC
open Go.MC.F
theorem code_five_knows {b : Book} {w : Want} (h : 5 ≤ codeB b w) : knowsB b w = true := by
  obtain ⟨h1, h2, _⟩ := code_five h
  unfold codeB at h
  rw [h1, h2] at h
  cases h3 : knowsB b w with
  | true => rfl
  | false => rw [h3] at h; exact absurd h (by decide : ¬ (5 : Int) ≤ 2)
theorem grant_five {b : Book} {w : Want} (h : 5 ≤ codeB b w) : grantB b w = ((b.1, b.2.1, b.2.2.1, b.2.2.2.1, w.1), codeB b w) := by
  obtain ⟨f1, f2, f3, f4, f5⟩ := code_facts b w
  unfold grantB
  rw [beq_eq_false_iff_ne.2 (show codeB b w ≠ 1 by omega), show inB (codeB b w) 2 4 = false from (by unfold inB; rw [decide_eq_false (show ¬ codeB b w ≤ 4 by omega)]; simp), decide_eq_false (show ¬ partAt b w.1 ≥ 0 by have := f2 h; omega), beq_eq_false_iff_ne.2 (show codeB b w ≠ 0 by omega)]
  rfl
theorem grant_mid {b : Book} {w : Want} (h2 : 2 ≤ codeB b w) (h4 : codeB b w ≤ 4) : grantB b w = (b, codeB b w) := by
  unfold grantB
  rw [beq_eq_false_iff_ne.2 (show codeB b w ≠ 1 by omega), show inB (codeB b w) 2 4 = true from (by unfold inB; rw [decide_eq_true h4, decide_eq_true (show codeB b w ≥ 2 from h2)]; rfl)]
  rfl
theorem grant_one {b : Book} {w : Want} (h : codeB b w = 1) : grantB b w = (([], [], [], [], 0), 1) := by
  unfold grantB; rw [h]; rfl
theorem grant_again {b : Book} {w : Want} (h : codeB b w ≠ 1) : grantB (grantB b w).1 w = ((grantB b w).1, bif decide (codeB b w > 4) then 4 else codeB b w) := by
  obtain ⟨f1, f2, f3, f4, f5⟩ := code_facts b w
  by_cases h5 : 5 ≤ codeB b w
  · rw [grant_five h5, decide_eq_true (show codeB b w > 4 by omega)]
    obtain ⟨g1, g2, g3⟩ := code_five h5
    have hn := want_num g2
    have o := bookOk_iff.1 g1
    have e : codeB (b.1, b.2.1, b.2.2.1, b.2.2.2.1, w.1) w = 4 := by
      have hk : knowsB (b.1, b.2.1, b.2.2.1, b.2.2.2.1, w.1) w = true := (code_five_knows h5 : knowsB b w = true)
      have hp : partAt (b.1, b.2.1, b.2.2.1, b.2.2.2.1, w.1) w.1 < 0 := f2 h5
      unfold codeB
      rw [seen_ok g1 (by omega) hn.2, g2, hk, decide_eq_false (by omega), decide_eq_true (Int.le_refl w.1)]
      rfl
    have := grant_mid (b := (b.1, b.2.1, b.2.2.1, b.2.2.2.1, w.1)) (w := w) (by rw [e]; decide) (by rw [e]; decide)
    rw [e] at this
    exact this
  · rw [decide_eq_false (show ¬ codeB b w > 4 by omega)]
    by_cases h0 : codeB b w = 0
    · obtain ⟨g1, g2, g3, g4, g5, _, _⟩ := grant_zero h0
      have e : codeB (grantB b w).1 w = 0 := by
        unfold codeB
        rw [g1, g2, g3, decide_eq_true (show partAt (grantB b w).1 w.1 ≥ 0 from g4), show (partG (grantB b w).1 w.1).1 = w from g5, same_self]
        rfl
      rw [h0]
      generalize (grantB b w).1 = x at e g4 ⊢
      unfold grantB
      rw [e, decide_eq_true (show partAt x w.1 ≥ 0 from g4)]
      rfl
    · rw [grant_mid (b := b) (by omega) (by omega)]
      exact grant_mid (b := b) (w := w) (by omega) (by omega)
theorem wantOf_at {b : Book} (h : bookOk b = true) {n : Int} (hp : 0 ≤ partAt b n) : wantOf b n = (partX b n).1 := by
  obtain ⟨j, hj, e1, e2⟩ := idxB_mem (p := fun q : Part => q.1.1 == n) (l := b.2.2.2.1) (i := 0) hp
  have e : partX b n = b.2.2.2.1[j] := by
    unfold partX
    rw [show partAt b n = ((0 + j : Nat) : Int) from e1, Int.toNat_natCast, Nat.zero_add, getD_at hj]
  unfold wantOf
  cases hf : b.2.2.2.1.find? fun p => p.1.1 == n with
  | none =>
    have := List.find?_eq_none.1 hf _ (List.getElem_mem hj)
    exact absurd e2 this
  | some p =>
    have hp' := List.find?_some hf
    obtain ⟨i, hi, ei⟩ := List.mem_iff_getElem.1 (List.mem_of_find?_eq_some hf)
    have hpw := List.pairwise_iff_getElem.1 (bookOk_iff.1 h).pp
    have n1 : (b.2.2.2.1[i]).1.1 = n := by rw [ei]; simpa using hp'
    have n2 : (b.2.2.2.1[j]).1.1 = n := by simpa using e2
    have : i = j := by
      rcases Nat.lt_trichotomy i j with c | c | c
      · have := (hpw i j (by simpa using hi) (by simpa using hj) c).1
        simp only [List.getElem_map] at this; omega
      · exact c
      · have := (hpw j i (by simpa using hj) (by simpa using hi) c).1
        simp only [List.getElem_map] at this; omega
    subst this
    rw [e, ei]; rfl
theorem lawFnGrant {N : Nat} (hN : lim < N) {code : List Int} (hc : Fit (.slice (.int .u8)) code) : f_67 N code = some true := by
  refine gTrue ?_
  unfold f_67
  refine gDec (fun _ => .some rfl) fun _ => ?_
  have hd : Gives (f_28 N code) fun q => mdB q.1 ∧ mdW 100 q.2 := by
    unfold f_28
    exact (drawCode hN (bytes_of hc)).ob fun q h => .some h
  refine hd.ob fun r hr => ?_
  obtain ⟨b, w⟩ := r
  have hb : mdB b := hr.1
  have hs := hb.sm
  have hw : smW w := hr.2.sm (by omega)
  have hx := (grant_md (w := w) hb).sm
  have hxx := (grant_md (w := w) (grant_md (w := w) hb)).sm
  simp only [ob_eq (implGrant hN hs hw), ob_eq (specGrant hN hs hw), bne_self_eq_false, cond_false, ob_eq (wBook hN hx), Bool.not_true, ob_eq (implCode hN hs hw), grant_code, ob_eq (implBookOk hN hs), ob_eq (specBookOk hN hs), ob_eq (implWantOk hN hw), ob_eq (specWantOk hN hw), beq_self_eq_true]
  refine gBy (fun h1 => ?_) fun h1 => ?_
  · rw [grant_one (beq_iff_eq.1 h1), ob_eq (wBook hN sm_none)]
    exact .some rfl
  have n1 : codeB b w ≠ 1 := beq_eq_false_iff_ne.1 h1
  have bok : bookOk b = true := (code_facts b w).2.2.1 n1
  have xok : bookOk (grantB b w).1 = true := grant_ok bok
  have tail : Gives (ob (f_105 N (grantB b w).1) false fun r_12 => bif !r_12 then some false else bif codeB b w != 0 then some (((List.length (grantB b w).1.2.2.2.1 : Nat) : Int) == ((List.length b.2.2.2.1 : Nat) : Int)) else
      ob (f_44 N (grantB b w).1 w.1) (([], [], [], [], Int.ofNat 0), Int.ofNat 0) fun r_13 => ob (f_43 N r_13.1 w.1 0 false) (([], [], [], [], Int.ofNat 0), Int.ofNat 0) fun r_14 => ob (f_40 N r_14.1 w) (([], [], [], [], Int.ofNat 0), Int.ofNat 0) fun r_15 =>
      bif r_13.2 == 0 then bif r_14.2 == 0 then bif r_15.2 == 4 then ob (f_103 N (grantB b w).1 w.1) dWant fun r_16 => ob (f_107 N r_16 w) false fun r_17 => some r_17 else some false else some false else some false) (· = true) := by
    rw [ob_eq (wSafe hN xok)]
    refine gBy (fun h => by cases h) fun _ => ?_
    refine gBy (fun hc0 => ?_) fun hc0 => ?_
    · have h0 : codeB b w ≠ 0 := by simpa using hc0
      have hlen : (grantB b w).1.2.2.2.1 = b.2.2.2.1 := by
        by_cases h5 : 5 ≤ codeB b w
        · rw [grant_five h5]
        · have := (code_facts b w).1
          rw [grant_mid (by omega) (by omega)]
      rw [hlen]
      exact .some (by simp)
    · have h0 : codeB b w = 0 := by simpa using hc0
      obtain ⟨g1, g2, g3, g4, g5, _, _⟩ := grant_zero h0
      obtain ⟨a1, a2, a3, _, _⟩ := after g1 g2 g3 g4 g5
      have a4 := after_code g1 g2 g3 g4 g5
      have hv : smB (overBk (stoppedB (grantB b w).1 w.1) w.1 0 false) := by
        have := over_ok (n := w.1) (moved := 0) (done := false) a3
        rw [a2] at this
        exact ok_sm this
      rw [ob_eq (implStop hN hx w.1), a1]
      simp only
      rw [ob_eq (implOver hN (ok_sm a3) w.1 0 false), a2]
      simp only
      rw [ob_eq (implGrant hN hv hw), grant_code, a4, ob_eq (wPart hN hx w.1), wantOf_at g1 g4, g5, ob_eq (wWant hN hw)]
      exact .some rfl
  have hy : f_40 N (grantB b w).1 w = some ((grantB b w).1, bif decide (codeB b w > 4) then 4 else codeB b w) := by rw [implGrant hN hx hw, grant_again n1]
  rw [ob_eq hy]
  simp only [ob_eq (wBook hN hx), Bool.not_true, cond_false]
  refine gBy (fun h0 => ?_) fun h0 => ?_
  · have e0 := beq_iff_eq.1 h0
    refine gBy (fun h => ?_) fun _ => gDec (fun h => absurd h (by omega)) fun _ => tail
    rw [e0] at h; cases h
  · refine gDec (fun h => gBy (fun h2 => ?_) fun _ => tail) fun _ => tail
    rw [decide_eq_true h] at h2; cases h2
end Go.MC

namespace Go.Proofs.YtaihjhaabnfenaaGreat.fnGrant
open Go.ChangeShapes Go.WideShapes Go.ChangeAt Go.RowKit Go.MC
open Go.ChangeMaps (open_string shut_string)
set_option linter.unusedVariables false
theorem own : ownKnob Tryz.prog.godebug = none := by kernel_rfl
theorem laidOut : laidOutB Tryz.prog = true := by kernel_rfl
set_option maxRecDepth 100000 in
theorem lifted (os : Os) (started : os.Started) (H : Type) (enc : TypeId × Value → H) :
    ReturnsInHanded {} Tryz.checked os 9 .any (Rows.fnGrantSpec.pre6 enc Tryz.prog Tryz.f9 Rows.fnGrantRow.domain false) (Rows.fnGrantSpec.post enc Tryz.prog Tryz.f9 false true false false) := by
  refine returnsInHanded_of_change_sized (C := Tryz.checked) own started (by kernel_rfl) Tryz.func9
    (ChangeSpec.witness6 (enc := enc) (C := Tryz.checked) false ⟨#[], #[.slice none 0 0], []⟩ 8 (by kernel_rfl) (by kernel_rfl) (by kernel_rfl) (by kernel_rfl)) ?_
  intro W base args ds gs before hval0 hW hcnd hsz0 _
  have hsz : (DataW.weightsEach Tryz.prog (Tryz.f9.params.toList ++ Rows.fnGrantSpec.plain.varTypes Tryz.prog) (ds ++ gs)).all (· ≤ reachBytes) = true := hsz0
  have hval : ∀ (j : Nat) t v, Tryz.f9.params[j]? = some t → args[j]? = some v → Value.okWide Tryz.prog W .any base t v := hval0
  have hW' := hW
  obtain ⟨p, q, hA0, hV, rfl, hfz, hnd⟩ := hW
  have hA : DataW.TrodAll enc Tryz.prog W 0 (fun _ => true) true Tryz.f9.params.toList args.toList ds p := hA0
  rw [Tryz.params9] at hA hval hsz
  obtain ⟨v0, vs0, d0, ds0, p0, q0, hargs, rfl, rfl, h0, r0⟩ := trodAll_cons hA
  obtain ⟨rfl, rfl, rfl⟩ := trodAll_nil r0
  obtain rfl : args = #[v0] := by cases args; simp_all
  obtain ⟨rfl, rfl⟩ := trodVars_none hV
  have lt0 : ∀ x ∈ p0, x.block < W.heap.size := by obtain ⟨m, hm⟩ := h0; exact DataW.trod_lt m _ _ _ hm
  obtain ⟨x0, cs0, hx0, hs0⟩ := arg_rd (n := 12) (t := (.slice tByte)) (by kernel_rfl) (hval 0 22 v0 rfl rfl) h0 hsz (j := 0) rfl rfl
  clear hA0 hval0 hsz0 hsz
  have law : F.f_67 (lim + 1) x0 = some true := lawFnGrant (N := lim + 1) (Nat.lt_succ_self _) (id hx0.fit)
  have hout := summ_out1 (f := F.f_67 (lim + 1)) law (rs := [.d .bool false]) (ts := [.bool]) (fz := false) (a := false) (t := (.slice tByte)) (x := x0) (r := true)
  refine (law_calls (con_f_67 (lim + 1)) (args := [v0]) (ds := [⟨(.slice tByte), x0⟩]) ⟨v0, [], [], rfl, rfl, ⟨rfl, rfl⟩⟩
    ⟨v0, [], x0, [], cs0, rfl, rfl, hx0, hs0, ⟨rfl, rfl, rfl, rfl⟩⟩ hout.1 hout.2 rfl).mono fun e W' ⟨he, bel⟩ => ?_
  subst he
  exact ⟨_, rfl, _, _, _, [], _, [], hW', trodAll_mk1 (shut_bool Tryz.underlying4 _), (trodAll_cons_mk (Below.trod laidOut (by kernel_rfl) (of_decide_eq_true (by kernel_rfl)) h0 bel lt0) trodAll_mk0), rfl, bel.frame _, fun h => by cases h⟩
theorem over : Rows.fnGrantRow.holds Tryz.pinned (OpenSpec.ofChange Rows.fnGrantSpec) :=
  OpenClaim.holds_of_wide 9 Tryz.f9 rfl rfl rfl rfl rfl rfl rfl ⟨rfl, rfl, rfl, rfl, rfl⟩ rfl rfl rfl rfl rfl (by kernel_rfl) Tryz.func9 (by kernel_rfl)
    (of_decide_eq_true (by kernel_rfl)) (by unfold Func.isWrapper; first | (rw [if_pos (by decide +kernel)]; kernel_rfl) | (rw [if_neg (by decide +kernel)]; exact ⟨rfl, rfl⟩))
    (fun os started H enc _ => lifted os started H enc)
theorem proved : Rows.FnGrantSaid := over
#print axioms proved
end Go.Proofs.YtaihjhaabnfenaaGreat.fnGrant
namespace Go.Proofs.YtaihjhaabnfenaaGreat
theorem fnGrant_holds : Rows.FnGrantSaid := fnGrant.proved
end Go.Proofs.YtaihjhaabnfenaaGreat


/- The law FnExactClaimMay returns true on every input: what the program tells is what the document tells, by the contracts of all functions that it reaches and a proof in plain Lean. There is no condition. -/
import Derived.Test.YtaihjhaabnfenaamFnExactClaimMay3
import Derived.Test.YtaihjhaabnfenaaRows
import Derived.Test.YtaihjhaabnfenaamFnExactClaimMay1
import Derived.WalkKit
import Derived.ProofKit
import Derived.OpenShut
import Derived.ShutString
import Derived.ChangeOld
import Derived.Below
import Derived.SizedLaws
import Derived.Carry
/- ClaimBookOk: the document's and the program's tell the same. -/
set_option linter.unusedVariables false
set_option linter.unusedSimpArgs false
namespace Go.MC
open Go.MC.F

theorem less_irrefl : ∀ l : Txt, Op.bytesLess l l = false
  | [] => rfl
  | a :: x => by
    have : ¬ a < a := UInt8.lt_irrefl a
    simp [Op.bytesLess, this, less_irrefl x]

theorem not_any {α : Type} (l : List α) (p : α → Bool) : l.all (fun x => !p x) = !l.any p := by rw [List.not_any_eq_all_not]
theorem not_all {α : Type} (l : List α) (p : α → Bool) : l.any (fun x => !p x) = !l.all p := by rw [List.not_all_eq_any_not]

/-! Foes -/
def isFoe (b : Book) (x y : Txt) : Bool := b.1.any fun f => (f.1 == x && f.2 == y) || (f.1 == y && f.2 == x)
def clash (b : Book) (x y : List Txt) : Bool := b.1.any fun f => (x.contains f.1 && y.contains f.2) || (x.contains f.2 && y.contains f.1)
theorem clash_eq (b : Book) (x y : List Txt) : clash b x y = x.any fun u => y.any fun v => isFoe b u v := by
  rw [Bool.eq_iff_iff]
  simp only [clash, isFoe, List.any_eq_true, Bool.or_eq_true, Bool.and_eq_true, List.contains_iff_mem, beq_iff_eq]
  constructor
  · rintro ⟨f, hf, ⟨h1, h2⟩ | ⟨h1, h2⟩⟩
    · exact ⟨f.1, h1, f.2, h2, f, hf, .inl ⟨rfl, rfl⟩⟩
    · exact ⟨f.2, h1, f.1, h2, f, hf, .inr ⟨rfl, rfl⟩⟩
  · rintro ⟨u, hu, v, hv, f, hf, ⟨rfl, rfl⟩ | ⟨rfl, rfl⟩⟩
    · exact ⟨f, hf, .inl ⟨hu, hv⟩⟩
    · exact ⟨f, hf, .inr ⟨hu, hv⟩⟩

theorem l2Foes {N : Nat} (hN : lim < N) {b : Book} (hb : b.1.length ≤ 1048576) (x y : Txt) : spec_l2Foes N b x y = some (isFoe b x y) := by
  have hlim := lim_eq
  unfold spec_l2Foes spec_l2Foesb
  refine (lp_allI b.1 _ (fun _ f => !((f.1 == x && f.2 == y) || (f.1 == y && f.2 == x))) (some true) (some false) (fun g i hi => ?_) (fun g => ?_) N (by omega)).trans ?_
  · unfold spec_l2Foes_0r
    simp only [dlt hi, dge, gAt hi, cond_true, wrS (show i ≤ 1000000000000000000 by omega)]
    generalize (b.1[i].1 == x) = a1
    generalize (b.1[i].2 == y) = a2
    generalize (b.1[i].1 == y) = a3
    generalize (b.1[i].2 == x) = a4
    cases a1 <;> cases a2 <;> cases a3 <;> cases a4 <;> rfl
  · unfold spec_l2Foes_0r
    rw [dnlt]; rfl
  · rw [allI_all, not_any]
    unfold isFoe
    cases b.1.any fun f => (f.1 == x && f.2 == y) || (f.1 == y && f.2 == x) <;> rfl
theorem l2Clash {N : Nat} (hN : lim < N) {b : Book} (hb : b.1.length ≤ 1048576) (x : Txt) {may : List Txt} (hm : may.length ≤ 1048576) : spec_l2Clash N b x may = some (may.any fun v => isFoe b x v) := by
  have hlim := lim_eq
  unfold spec_l2Clash spec_l2Clashb
  refine (lp_allI may _ (fun _ v => !(isFoe b x v)) (some true) (some false) (fun g i hi => ?_) (fun g => ?_) N (by omega)).trans ?_
  · unfold spec_l2Clash_0r
    simp only [dlt hi, dge, gAt hi, cond_true, wrS (show i ≤ 1000000000000000000 by omega)]
    rw [ob_eq (l2Foes hN hb _ _)]
    cases isFoe b x may[i] <;> rfl
  · unfold spec_l2Clash_0r
    rw [dnlt]; rfl
  · rw [allI_all, not_any]
    cases may.any fun v => isFoe b x v <;> rfl
theorem implFoes {N : Nat} (hN : lim < N) {b : Book} (hb : b.1.length ≤ 1048576) {x y : List Txt} (hx : x.length ≤ 1048576) (hy : y.length ≤ 1048576) : impl_ClaimBook_foes N b x y = some (clash b x y) := by
  have hlim := lim_eq
  unfold impl_ClaimBook_foes impl_ClaimBook_foesb
  refine (lp_allI b.1 _ (fun _ f => !((x.contains f.1 && y.contains f.2) || (x.contains f.2 && y.contains f.1))) (some true) (some false) (fun g i hi => ?_) (fun g => ?_) N (by omega)).trans ?_
  · unfold impl_ClaimBook_foes_0r
    simp only [dlt hi, dge, gAt hi, cond_true, wrS (show i ≤ 1000000000000000000 by omega)]
    simp only [ob_eq (slicesContains hN (show x.length ≤ lim by omega) _), ob_eq (slicesContains hN (show y.length ≤ lim by omega) _)]
    generalize x.contains b.1[i].1 = a1
    generalize y.contains b.1[i].2 = a2
    generalize x.contains b.1[i].2 = a3
    generalize y.contains b.1[i].1 = a4
    cases a1 <;> cases a2 <;> cases a3 <;> cases a4 <;> rfl
  · unfold impl_ClaimBook_foes_0r
    rw [dnlt]; rfl
  · rw [allI_all, not_any]
    unfold clash
    cases b.1.any fun f => (x.contains f.1 && y.contains f.2) || (x.contains f.2 && y.contains f.1) <;> rfl

def ahead (f g : Foe) : Bool := Op.bytesLess f.1 g.1 || (f.1 == g.1 && Op.bytesLess f.2 g.2)
def foeOk (b : Book) (i : Nat) (f : Foe) : Bool := nmOk f.1 && (nmOk f.2 && (Op.bytesLess f.1 f.2 && (i == 0 || ahead (b.1.getD (i - 1) dFoe) f)))
def foesOk (b : Book) : Bool := !decide ((b.1.length : Int) > 12) && allI (foeOk b) 0 b.1
theorem implAhead {N : Nat} (f g : Foe) : impl_ClaimFoe_ahead N f g = some (ahead f g) := by
  unfold impl_ClaimFoe_ahead ahead
  cases Op.bytesLess f.1 g.1 <;> cases (f.1 == g.1) <;> rfl
theorem l2FoesOk {N : Nat} (hN : lim < N) (b : Book) : spec_l2FoesOk N b = some (foesOk b) := by
  have hlim := lim_eq
  unfold spec_l2FoesOk spec_l2FoesOkb foesOk
  cases hb : decide ((b.1.length : Int) > 12) with
  | true => rfl
  | false =>
    have hl : b.1.length ≤ 12 := by have := of_decide_eq_false hb; omega
    refine (lp_allI b.1 _ (foeOk b) (some false) (some true) (fun g i hi => ?_) (fun g => ?_) N (by omega)).trans ?_
    · unfold spec_l2FoesOk_0r foeOk
      simp only [dlt hi, dge, gAt hi, cond_true, wrS (show i ≤ 1000000000000000000 by omega), dgt0]
      rw [ob_eq (l1NameOk hN _)]
      simp only [ob_eq (l1NameOk hN b.1[i].2)]
      cases nmOk b.1[i].1 with
      | false => rfl
      | true =>
        cases nmOk b.1[i].2 with
        | false => rfl
        | true =>
          cases Op.bytesLess b.1[i].1 b.1[i].2 with
          | false => rfl
          | true =>
            cases h0 : i == 0 with
            | true => rfl
            | false =>
              have h0' : 0 < i := by simp at h0; omega
              simp only [Bool.not_true, Bool.not_false, cond_true, cond_false, wrP (show i ≤ 1000000000000000000 by omega) h0', dge, dlt (show i - 1 < b.1.length by omega), gAt', Bool.false_or, Bool.true_and, ahead]
              cases he : (b.1.getD (i - 1) dFoe).1 == b.1[i].1 with
              | false => cases Op.bytesLess (b.1.getD (i - 1) dFoe).1 b.1[i].1 <;> rfl
              | true =>
                rw [eq_of_beq he, less_irrefl]
                cases Op.bytesLess (b.1.getD (i - 1) dFoe).2 b.1[i].2 <;> rfl
    · unfold spec_l2FoesOk_0r
      rw [dnlt]; rfl
    · cases allI (foeOk b) 0 b.1 <;> rfl

/-! Places -/
/-- The place of a spot, -1 if it is not there. -/
def atB (b : Book) (n : Txt) : Int := idxB (fun s : Spot => s.1 == n) 0 b.2.1
theorem l2Spot {N : Nat} (hN : lim < N) {b : Book} (hb : b.2.1.length ≤ 1048576) (n : Txt) : spec_l2Spot N b n = some (atB b n) := by
  have hlim := lim_eq
  unfold spec_l2Spot spec_l2Spotb atB
  refine lp_idx b.2.1 _ (fun s : Spot => s.1 == n) (fun g i hi => ?_) (fun g => ?_) N (by omega)
  · unfold spec_l2Spot_0r
    simp only [dlt hi, dge, gAt hi, cond_true, wrS (show i ≤ 1000000000000000000 by omega)]
  · unfold spec_l2Spot_0r
    rw [dnlt]; rfl
theorem implAt {N : Nat} (hN : lim < N) {b : Book} (hb : b.2.1.length ≤ 1048576) (n : Txt) : impl_ClaimBook_at N b n = some (atB b n) := by
  have hlim := lim_eq
  unfold impl_ClaimBook_at atB
  have h : slices_IndexFunc_ClaimSpot__impl_ClaimBook_at_c1 N b.2.1 n = some (idxB (fun s : Spot => s.1 == n) 0 b.2.1, n) := by
    unfold slices_IndexFunc_ClaimSpot__impl_ClaimBook_at_c1 slices_IndexFunc_ClaimSpot__impl_ClaimBook_at_c1b
    refine lp_idxC b.2.1 _ (fun s : Spot => s.1 == n) n (fun g i hi => ?_) (fun g => ?_) N (by omega)
    · unfold slices_IndexFunc_ClaimSpot__impl_ClaimBook_at_c1_0r
      simp only [dlt hi, dge, gAt hi, cond_true, wrS (show i ≤ 1000000000000000000 by omega)]
      rw [ob_eq (show impl_ClaimBook_at_c1 N b.2.1[i] n = some (b.2.1[i].1 == n, n) from rfl)]
    · unfold slices_IndexFunc_ClaimSpot__impl_ClaimBook_at_c1_0r
      rw [dnlt]; rfl
  rw [ob_eq h]
theorem idxB_lt {α : Type} (p : α → Bool) : ∀ (l : List α) (i : Nat), 0 ≤ idxB p i l → idxB p i l < i + l.length
  | [], _, h => by simp [idxB] at h
  | x :: xs, i, h => by
    simp only [idxB] at h ⊢
    by_cases hp : p x = true
    · simp only [hp, cond_true, List.length_cons] at h ⊢; omega
    · have hp : p x = false := by simpa using hp
      simp only [hp, cond_false, List.length_cons] at h ⊢
      have := idxB_lt p xs (i + 1) h
      omega

theorem l1All {N : Nat} (hN : lim < N) {a b : List Txt} (ha : a.length ≤ 1048576) (hb : b.length ≤ 1048576) : spec_l1All N a b = some (a.all fun x => b.contains x) := by
  have hlim := lim_eq
  unfold spec_l1All spec_l1Allb
  refine (lp_allI a _ (fun _ x => b.contains x) (some false) (some true) (fun g i hi => ?_) (fun g => ?_) N (by omega)).trans ?_
  · unfold spec_l1All_0r
    simp only [dlt hi, dge, gAt hi, cond_true, wrS (show i ≤ 1000000000000000000 by omega)]
    rw [ob_eq (l1Has hN (show b.length ≤ lim by omega) _)]
    cases b.contains a[i] <;> rfl
  · unfold spec_l1All_0r
    rw [dnlt]; rfl
  · rw [allI_all]
    cases a.all fun x => b.contains x <;> rfl
theorem implWithin {N : Nat} (hN : lim < N) {a b : List Txt} (ha : a.length ≤ 1048576) (hb : b.length ≤ 1048576) : impl_within N a b = some (a.all fun x => b.contains x) := by
  have hlim := lim_eq
  unfold impl_within slices_ContainsFunc_string__impl_within_c1
  have h : slices_IndexFunc_string__impl_within_c1 N a b = some (idxB (fun x => !b.contains x) 0 a, b) := by
    unfold slices_IndexFunc_string__impl_within_c1 slices_IndexFunc_string__impl_within_c1b
    refine lp_idxC a _ (fun x => !b.contains x) b (fun g i hi => ?_) (fun g => ?_) N (by omega)
    · unfold slices_IndexFunc_string__impl_within_c1_0r
      simp only [dlt hi, dge, gAt hi, cond_true, wrS (show i ≤ 1000000000000000000 by omega)]
      have h1 : impl_within_c1 N a[i] b = some (!b.contains a[i], b) := by
        unfold impl_within_c1
        rw [ob_eq (slicesContains hN (show b.length ≤ lim by omega) _)]
      rw [ob_eq h1]
    · unfold slices_IndexFunc_string__impl_within_c1_0r
      rw [dnlt]; rfl
  rw [ob_eq (a := (!(a.all fun x => b.contains x), b)) (by rw [ob_eq h, idxB_nonneg, not_all]), Bool.not_not]

def knowsB (b : Book) (w : Want) : Bool := (w.2.2.2.1.all fun u => !decide (atB b u.1 < 0)) && ((w.2.2.2.2.1.all fun x => b.2.2.1.contains x) && (w.2.2.2.2.2.all fun x => b.2.2.1.contains x))
theorem l2Knows {N : Nat} (hN : lim < N) {b : Book} {w : Want} (hb : smB b) (hw : smW w) : spec_l2Knows N b w = some (knowsB b w) := by
  have hlim := lim_eq
  have h1 := hw.2.1.1
  have h2 : w.2.2.2.2.1.length ≤ 1048576 := hw.2.2.1.1
  have h3 : w.2.2.2.2.2.length ≤ 1048576 := hw.2.2.2.1
  have h4 : b.2.2.1.length ≤ 1048576 := hb.2.2.1.1
  have h5 := hb.2.1.1
  unfold spec_l2Knows spec_l2Knowsb knowsB
  have k4 : spec_l2Knows_4 N b w N 0 = some (w.2.2.2.2.2.all fun x => b.2.2.1.contains x) := by
    refine (lp_allI w.2.2.2.2.2 _ (fun _ x => b.2.2.1.contains x) (some false) (some true) (fun g i hi => ?_) (fun g => ?_) N (by omega)).trans ?_
    · unfold spec_l2Knows_4r
      simp only [dlt hi, dge, gAt hi, cond_true, wrS (show i ≤ 1000000000000000000 by omega)]
      rw [ob_eq (l1Has hN (show b.2.2.1.length ≤ lim by omega) _)]
      cases b.2.2.1.contains w.2.2.2.2.2[i] <;> rfl
    · unfold spec_l2Knows_4r
      rw [dnlt]; rfl
    · rw [allI_all]
      cases w.2.2.2.2.2.all fun x => b.2.2.1.contains x <;> rfl
  have k2 : spec_l2Knows_2 N b w N 0 = some ((w.2.2.2.2.1.all fun x => b.2.2.1.contains x) && (w.2.2.2.2.2.all fun x => b.2.2.1.contains x)) := by
    refine (lp_allI w.2.2.2.2.1 _ (fun _ x => b.2.2.1.contains x) (some false) (spec_l2Knows_4 N b w N 0) (fun g i hi => ?_) (fun g => ?_) N (by omega)).trans ?_
    · unfold spec_l2Knows_2r
      simp only [dlt hi, dge, gAt hi, cond_true, wrS (show i ≤ 1000000000000000000 by omega)]
      rw [ob_eq (l1Has hN (show b.2.2.1.length ≤ lim by omega) _)]
      cases b.2.2.1.contains w.2.2.2.2.1[i] <;> rfl
    · unfold spec_l2Knows_2r
      rw [dnlt]; rfl
    · rw [allI_all, k4]
      cases w.2.2.2.2.1.all fun x => b.2.2.1.contains x <;> rfl
  refine (lp_allI w.2.2.2.1 _ (fun _ u => !decide (atB b u.1 < 0)) (some false) (spec_l2Knows_2 N b w N 0) (fun g i hi => ?_) (fun g => ?_) N (by omega)).trans ?_
  · unfold spec_l2Knows_0r
    simp only [dlt hi, dge, gAt hi, cond_true, wrS (show i ≤ 1000000000000000000 by omega)]
    rw [ob_eq (l2Spot hN h5 _)]
    cases decide (atB b w.2.2.2.1[i].1 < 0) <;> rfl
  · unfold spec_l2Knows_0r
    rw [dnlt]; rfl
  · rw [allI_all, k2]
    cases w.2.2.2.1.all fun u => !decide (atB b u.1 < 0) <;> rfl
theorem implKnows {N : Nat} (hN : lim < N) {b : Book} {w : Want} (hb : smB b) (hw : smW w) : impl_ClaimBook_knows N b w = some (knowsB b w) := by
  have hlim := lim_eq
  have h1 := hw.2.1.1
  have h2 : w.2.2.2.2.1.length ≤ 1048576 := hw.2.2.1.1
  have h3 : w.2.2.2.2.2.length ≤ 1048576 := hw.2.2.2.1
  have h4 : b.2.2.1.length ≤ 1048576 := hb.2.2.1.1
  have h5 := hb.2.1.1
  unfold impl_ClaimBook_knows impl_ClaimBook_knowsb knowsB
  refine (lp_allI w.2.2.2.1 _ (fun _ u => !decide (atB b u.1 < 0)) (some false) (some ((w.2.2.2.2.1.all fun x => b.2.2.1.contains x) && (w.2.2.2.2.2.all fun x => b.2.2.1.contains x))) (fun g i hi => ?_) (fun g => ?_) N (by omega)).trans ?_
  · unfold impl_ClaimBook_knows_0r
    simp only [dlt hi, dge, gAt hi, cond_true, wrS (show i ≤ 1000000000000000000 by omega)]
    rw [ob_eq (implAt hN h5 _)]
    cases decide (atB b w.2.2.2.1[i].1 < 0) <;> rfl
  · unfold impl_ClaimBook_knows_0r
    rw [dnlt, cond_false, ob_eq (implWithin hN h2 h4)]
    simp only [ob_eq (implWithin hN h3 h4)]
    cases w.2.2.2.2.1.all fun x => b.2.2.1.contains x <;> rfl
  · rw [allI_all]
    cases w.2.2.2.1.all fun u => !decide (atB b u.1 < 0) <;> rfl

/-! Parts -/
/-- What was granted of a place is in its spot. -/
def useIn (s : Spot) (w : Want) (u : Use) : Bool :=
  !((w.2.1 == 2) && decide (s.2.2.2.1 > 0)) && (!((w.2.1 == 1) && (!(u.2.1 == 2) && !(s.2.2.2.2.all fun x => w.2.2.1.contains x))) && (!((w.2.1 == 1) && (!(u.2.1 == 1) && !(w.2.2.1.all fun x => s.2.2.2.2.contains x))) && decide (IntKind.i64.wrap (s.2.2.1 + u.2.2) ≤ s.2.2.2.1)))
theorem l2UseOk {N : Nat} (hN : lim < N) {s : Spot} {w : Want} (hs : smS s) (hw : smW w) (u : Use) : spec_l2UseOk N s w u = some (useIn s w u) := by
  unfold spec_l2UseOk useIn
  simp only [ob_eq (l1All hN hs.2.1 hw.1.1), ob_eq (l1All hN hw.1.1 hs.2.1), bne]
  generalize (w.2.1 == 2) = x0
  generalize decide (s.2.2.2.1 > 0) = x1
  generalize (w.2.1 == 1) = x2
  generalize (u.2.1 == 2) = x3
  generalize (u.2.1 == 1) = x4
  generalize (s.2.2.2.2.all fun x => w.2.2.1.contains x) = x5
  generalize (w.2.2.1.all fun x => s.2.2.2.2.contains x) = x6
  generalize decide (IntKind.i64.wrap (s.2.2.1 + u.2.2) ≤ s.2.2.2.1) = x7
  revert x0 x1 x2 x3 x4 x5 x6 x7
  decide +kernel

def spotAt (b : Book) (n : Txt) : Spot := b.2.1.getD (atB b n).toNat dSpot
def partOk (b : Book) (p : Part) : Bool := !decide (p.1.1 > b.2.2.2.2) && (wantOk p.1 && (knowsB b p.1 && p.1.2.2.2.1.all fun u => useIn (spotAt b u.1) p.1 u))
theorem at_of_knows {b : Book} {w : Want} (h : knowsB b w = true) {i : Nat} (hi : i < w.2.2.2.1.length) : 0 ≤ atB b w.2.2.2.1[i].1 ∧ atB b w.2.2.2.1[i].1 < b.2.1.length := by
  simp only [knowsB, Bool.and_eq_true] at h
  have h1 := List.all_eq_true.1 h.1 _ (List.getElem_mem hi)
  have h2 : 0 ≤ atB b w.2.2.2.1[i].1 := by
    have : ¬ atB b w.2.2.2.1[i].1 < 0 := by simpa using h1
    omega
  refine ⟨h2, ?_⟩
  have := idxB_lt (fun s : Spot => s.1 == w.2.2.2.1[i].1) b.2.1 0 h2
  unfold atB
  omega
theorem getD_mem {α : Type} {l : List α} {i : Nat} (h : i < l.length) (d : α) : l.getD i d ∈ l := by
  rw [List.getD_eq_getElem?_getD, List.getElem?_eq_getElem h]
  exact List.getElem_mem h
theorem spotAt_mem {b : Book} {n : Txt} (h : 0 ≤ atB b n) (h2 : atB b n < b.2.1.length) : spotAt b n ∈ b.2.1 := getD_mem (by omega) _

theorem l2PartOk {N : Nat} (hN : lim < N) {b : Book} {p : Part} (hb : smB b) (hp : smP p) : spec_l2PartOk N b p = some (partOk b p) := by
  have hlim := lim_eq
  have h1 := hp.2.1.1
  unfold spec_l2PartOk spec_l2PartOkb partOk
  rw [ob_eq (specWantOk hN hp)]
  simp only [ob_eq (l2Knows hN hb hp)]
  cases wantOk p.1 with
  | false => cases decide (p.1.1 > b.2.2.2.2) <;> rfl
  | true =>
    cases decide (p.1.1 > b.2.2.2.2) with
    | true => rfl
    | false =>
      cases hk : knowsB b p.1 with
      | false => rfl
      | true =>
        refine (lp_allI p.1.2.2.2.1 _ (fun _ u => useIn (spotAt b u.1) p.1 u) (some false) (some true) (fun g i hi => ?_) (fun g => ?_) N (by omega)).trans ?_
        · obtain ⟨h2, h3⟩ := at_of_knows hk hi
          unfold spec_l2PartOk_0r
          simp only [dlt hi, dge, gAt hi, cond_true, wrS (show i ≤ 1000000000000000000 by omega)]
          rw [ob_eq (l2Spot hN hb.2.1.1 _), decide_eq_true h2, decide_eq_true h3]
          simp only [cond_true, show b.2.1.getD (atB b p.1.2.2.2.1[i].1).toNat dSpot = spotAt b p.1.2.2.2.1[i].1 from rfl]
          rw [ob_eq (l2UseOk hN (hb.2.1.2 _ (spotAt_mem h2 h3)) hp _)]
          cases useIn (spotAt b p.1.2.2.2.1[i].1) p.1 p.1.2.2.2.1[i] <;> rfl
        · unfold spec_l2PartOk_0r
          rw [dnlt]; rfl
        · rw [allI_all]
          cases p.1.2.2.2.1.all fun u => useIn (spotAt b u.1) p.1 u <;> rfl

theorem implPartOk {N : Nat} (hN : lim < N) {b : Book} {p : Part} (hb : smB b) (hp : smP p) (hm : ∀ s ∈ b.2.1, 0 ≤ s.2.2.2.1) : impl_ClaimBook_partOk N b p = some (partOk b p) := by
  have hlim := lim_eq
  have h1 := hp.2.1.1
  unfold impl_ClaimBook_partOk impl_ClaimBook_partOkb partOk
  cases decide (p.1.1 > b.2.2.2.2) with
  | true => rfl
  | false =>
    simp only [cond_false, Bool.not_false, Bool.true_and, ob_eq (implWantOk hN hp), ob_eq (implKnows hN hb hp)]
    cases wantOk p.1 with
    | false => rfl
    | true =>
      cases hk : knowsB b p.1 with
      | false => rfl
      | true =>
        refine (lp_allI p.1.2.2.2.1 _ (fun _ u => useIn (spotAt b u.1) p.1 u) (some false) (some true) (fun g i hi => ?_) (fun g => ?_) N (by omega)).trans ?_
        · obtain ⟨h2, h3⟩ := at_of_knows hk hi
          have hmem := spotAt_mem h2 h3
          have hmost := hm _ hmem
          unfold impl_ClaimBook_partOk_0r
          simp only [dlt hi, dge, gAt hi, cond_true, wrS (show i ≤ 1000000000000000000 by omega)]
          rw [ob_eq (implAt hN hb.2.1.1 _), decide_eq_true h2, decide_eq_true h3]
          simp only [cond_true]
          change (bif decide (IntKind.i64.wrap ((spotAt b p.1.2.2.2.1[i].1).2.2.1 + p.1.2.2.2.1[i].2.2) > (spotAt b p.1.2.2.2.1[i].1).2.2.2.1) then _ else _) = _
          simp only [show b.2.1.getD (atB b p.1.2.2.2.1[i].1).toNat dSpot = spotAt b p.1.2.2.2.1[i].1 from rfl]
          generalize spotAt b p.1.2.2.2.1[i].1 = s at hmem hmost ⊢
          generalize p.1.2.2.2.1[i] = u
          simp only [ob_eq (implWithin hN (hb.2.1.2 s hmem).2.1 hp.1.1), ob_eq (implWithin hN hp.1.1 (hb.2.1.2 s hmem).2.1), bne]
          have e1 : (s.2.2.2.1 == 0) = !decide (s.2.2.2.1 > 0) := by
            by_cases h : s.2.2.2.1 = 0
            · rw [h]; rfl
            · rw [decide_eq_true (by omega)]
              exact beq_eq_false_iff_ne.2 h
          have e2 : decide (IntKind.i64.wrap (s.2.2.1 + u.2.2) > s.2.2.2.1) = !decide (IntKind.i64.wrap (s.2.2.1 + u.2.2) ≤ s.2.2.2.1) := by
            by_cases h : IntKind.i64.wrap (s.2.2.1 + u.2.2) ≤ s.2.2.2.1
            · rw [decide_eq_true h, decide_eq_false (by omega)]; rfl
            · rw [decide_eq_false h, decide_eq_true (by omega)]; rfl
          rw [e1, e2]
          unfold useIn
          generalize (p.1.2.1 == 2) = x0
          generalize decide (s.2.2.2.1 > 0) = x1
          generalize (p.1.2.1 == 1) = x2
          generalize (u.2.1 == 2) = x3
          generalize (u.2.1 == 1) = x4
          generalize (s.2.2.2.2.all fun x => p.1.2.2.1.contains x) = x5
          generalize (p.1.2.2.1.all fun x => s.2.2.2.2.contains x) = x6
          generalize decide (IntKind.i64.wrap (s.2.2.1 + u.2.2) ≤ s.2.2.2.1) = x7
          generalize g ((i + 1 : Nat) : Int) = gg
          cases x7 <;> cases x0 <;> cases x1 <;> cases x2 <;> cases x3 <;> cases x4 <;> cases x5 <;> cases x6 <;> rfl
        · unfold impl_ClaimBook_partOk_0r
          rw [dnlt]; rfl
        · rw [allI_all]
          cases p.1.2.2.2.1.all fun u => useIn (spotAt b u.1) p.1 u <;> rfl
end Go.MC

/- ClaimBookOk and ClaimMay: the laws. -/
set_option linter.unusedVariables false
set_option linter.unusedSimpArgs false
namespace Go.MC
open Go.MC.F

/-! Spots -/
def spotOk (b : Book) (s : Spot) : Bool := nmOk s.1 && (inB s.2.1 0 1000 && (inB s.2.2.1 0 s.2.2.2.1 && (!decide (s.2.2.2.1 > s.2.1) && (nmsOk s.2.2.2.2 8 && !clash b s.2.2.2.2 s.2.2.2.2))))
def spotI (b : Book) (i : Nat) (s : Spot) : Bool := spotOk b s && (i == 0 || Op.bytesLess (b.2.1.getD (i - 1) dSpot).1 s.1)
def spotsOk (b : Book) : Bool := !decide ((b.2.1.length : Int) > 8) && allI (spotI b) 0 b.2.1

theorem l2SpotOk {N : Nat} (hN : lim < N) {b : Book} {s : Spot} (hb : b.1.length ≤ 1048576) (hs : smS s) : spec_l2SpotOk N b s = some (spotOk b s) := by
  have hlim := lim_eq
  have h1 := hs.2.1
  unfold spec_l2SpotOk spec_l2SpotOkb spotOk
  rw [ob_eq (l1NameOk hN _)]
  simp only [ob_eq (l1In s.2.1 0 1000), ob_eq (l1In s.2.2.1 0 s.2.2.2.1), ob_eq (l1NamesOk hN (show s.2.2.2.2.length ≤ lim by omega) 8)]
  have loop : spec_l2SpotOk_0 N b s N 0 = some (!clash b s.2.2.2.2 s.2.2.2.2) := by
    refine (lp_allI s.2.2.2.2 _ (fun _ x => !(s.2.2.2.2.any fun v => isFoe b x v)) (some false) (some true) (fun g i hi => ?_) (fun g => ?_) N (by omega)).trans ?_
    · unfold spec_l2SpotOk_0r
      simp only [dlt hi, dge, gAt hi, cond_true, wrS (show i ≤ 1000000000000000000 by omega)]
      rw [ob_eq (l2Clash hN hb _ h1)]
      cases s.2.2.2.2.any fun v => isFoe b s.2.2.2.2[i] v <;> rfl
    · unfold spec_l2SpotOk_0r
      rw [dnlt]; rfl
    · rw [allI_all, not_any, clash_eq]
      cases s.2.2.2.2.any fun u => s.2.2.2.2.any fun v => isFoe b u v <;> rfl
  rw [loop]
  cases nmOk s.1 <;> cases inB s.2.1 0 1000 <;> cases inB s.2.2.1 0 s.2.2.2.1 <;> cases decide (s.2.2.2.1 > s.2.1) <;> cases nmsOk s.2.2.2.2 8 <;> rfl

/-! Wants that have something in common -/
def share (a b : Want) : Bool := a.2.2.2.1.any fun u => b.2.2.2.1.any fun v => u.1 == v.1
def cross (a b : Want) : Bool := (a.2.2.2.2.1.any fun x => b.2.2.2.2.1.contains x) || ((a.2.2.2.2.1.any fun x => b.2.2.2.2.2.contains x) || (a.2.2.2.2.2.any fun x => b.2.2.2.2.1.contains x))

/-- A loop that appends. -/
theorem lp_app {α β : Type} {l : List α} {rd : (Int → List β → Option (List β)) → Int → List β → Option (List β)} (f : α → β)
    (hstep : ∀ (g : Int → List β → Option (List β)) (i : Nat) (out : List β) (h : i < l.length), out.length ≤ i → rd g (i : Int) out = g ((i + 1 : Nat) : Int) (out ++ [f l[i]]))
    (hend : ∀ (g : Int → List β → Option (List β)) (out : List β), rd g (l.length : Int) out = some out) {N : Nat} (hN : l.length < N) : lp (fun _ _ => none) rd N 0 [] = some (l.map f) := by
  have := lp_walk l (fun (g : Int → List β → Option (List β)) i (d : List β) => g (i : Int) d) (fun _ _ => none) rd (fun i d x => .inl (d ++ [f x])) (fun d => some d) (fun i d => d.length ≤ i)
    (fun g i st h hi => ⟨hstep g i st h hi, fun st' hs => by cases hs; simp; omega⟩) (fun g d hd => hend g d) N hN [] (by simp)
  refine this.trans ?_
  have : ∀ (l : List α) i (d : List β), outW (fun d => some d) (walkL (fun i (d : List β) x => (Sum.inl (d ++ [f x]) : List β ⊕ Option (List β))) i l d) = some (d ++ l.map f) := by
    intro l
    induction l with
    | nil => intro i d; simp [walkL, outW]
    | cons x xs ih =>
      intro i d
      simp only [walkL]
      rw [ih (i + 1) (d ++ [f x])]
      simp
  rw [this l 0 []]; rfl

theorem l2Uses {N : Nat} (hN : lim < N) {w : Want} (hw : smW w) : spec_l2Uses N w = some (w.2.2.2.1.map (·.1)) := by
  have hlim := lim_eq
  have h1 := hw.2.1.1
  unfold spec_l2Uses spec_l2Usesb
  refine lp_app (l := w.2.2.2.1) (fun u : Use => u.1) (fun g i out hi ho => ?_) (fun g out => ?_) (by omega)
  · unfold spec_l2Uses_0r
    simp only [dlt hi, dge, gAt hi, cond_true, wrS (show i ≤ 1000000000000000000 by omega)]
    have : (decide ((out.length + [w.2.2.2.1[i].1].length) * 16 ≤ lim) && Nat.ble 1 16) = true := by
      rw [decide_eq_true (by simp; omega)]; rfl
    simp only [this, cond_true]
  · unfold spec_l2Uses_0r
    rw [dnlt]; rfl
theorem share_eq (a b : Want) : ((a.2.2.2.1.map (·.1)).any fun x => (b.2.2.2.1.map (·.1)).contains x) = share a b := by
  unfold share
  rw [List.any_map]
  congr 1
  funext u
  simp only [Function.comp, List.contains_eq_any_beq, List.any_map]
  rfl
theorem l2Share {N : Nat} (hN : lim < N) {a b : Want} (ha : smW a) (hb : smW b) : spec_l1Share N (a.2.2.2.1.map (·.1)) (b.2.2.2.1.map (·.1)) = some (share a b) := by
  have hlim := lim_eq
  have h1 := ha.2.1.1
  have h2 := hb.2.1.1
  rw [l1Share hN (by simp; omega) (by simp; omega), share_eq]
theorem l2Crosses {N : Nat} (hN : lim < N) {a b : Want} (ha : smW a) (hb : smW b) : spec_l2Crosses N a b = some (cross a b) := by
  have hlim := lim_eq
  have h1 : a.2.2.2.2.1.length ≤ 1048576 := ha.2.2.1.1
  have h2 : a.2.2.2.2.2.length ≤ 1048576 := ha.2.2.2.1
  have h3 : b.2.2.2.2.1.length ≤ 1048576 := hb.2.2.1.1
  have h4 : b.2.2.2.2.2.length ≤ 1048576 := hb.2.2.2.1
  unfold spec_l2Crosses cross
  rw [ob_eq (l1Share hN (show a.2.2.2.2.1.length ≤ lim by omega) (show b.2.2.2.2.1.length ≤ lim by omega))]
  simp only [ob_eq (l1Share hN (show a.2.2.2.2.1.length ≤ lim by omega) (show b.2.2.2.2.2.length ≤ lim by omega)), ob_eq (l1Share hN (show a.2.2.2.2.2.length ≤ lim by omega) (show b.2.2.2.2.1.length ≤ lim by omega))]
  cases (a.2.2.2.2.1.any fun x => b.2.2.2.2.1.contains x) <;> cases (a.2.2.2.2.1.any fun x => b.2.2.2.2.2.contains x) <;> rfl
theorem implCross {N : Nat} (hN : lim < N) {a b : Want} (ha : smW a) (hb : smW b) : impl_cross N a b = some (cross a b) := by
  have hlim := lim_eq
  have h1 : a.2.2.2.2.1.length ≤ 1048576 := ha.2.2.1.1
  have h2 : a.2.2.2.2.2.length ≤ 1048576 := ha.2.2.2.1
  have h3 : b.2.2.2.2.1.length ≤ 1048576 := hb.2.2.1.1
  have h4 : b.2.2.2.2.2.length ≤ 1048576 := hb.2.2.2.1
  unfold impl_cross cross
  rw [ob_eq (implCommon hN (show a.2.2.2.2.1.length ≤ lim by omega) (show b.2.2.2.2.1.length ≤ lim by omega))]
  simp only [ob_eq (implCommon hN (show a.2.2.2.2.1.length ≤ lim by omega) (show b.2.2.2.2.2.length ≤ lim by omega)), ob_eq (implCommon hN (show a.2.2.2.2.2.length ≤ lim by omega) (show b.2.2.2.2.1.length ≤ lim by omega))]
  cases (a.2.2.2.2.1.any fun x => b.2.2.2.2.1.contains x) <;> cases (a.2.2.2.2.1.any fun x => b.2.2.2.2.2.contains x) <;> rfl

theorem implShare {N : Nat} (hN : lim < N) {a b : Want} (ha : smW a) (hb : smW b) : impl_share N a b = some (share a b) := by
  have hlim := lim_eq
  have h1 := ha.2.1.1
  have h2 := hb.2.1.1
  have inner : ∀ u : Use, impl_share_c1 N u b = some (b.2.2.2.1.any fun v => u.1 == v.1, b) := by
    intro u
    unfold impl_share_c1 slices_ContainsFunc_ClaimUse__impl_share_c1_c1
    have h : slices_IndexFunc_ClaimUse__impl_share_c1_c1 N b.2.2.2.1 u = some (idxB (fun v : Use => u.1 == v.1) 0 b.2.2.2.1, u) := by
      unfold slices_IndexFunc_ClaimUse__impl_share_c1_c1 slices_IndexFunc_ClaimUse__impl_share_c1_c1b
      have := lp_walk b.2.2.2.1 (fun (g : Int → Txt → Int → Int → Option (Int × Use)) i (d : Use) => g (i : Int) d.1 d.2.1 d.2.2) (fun _ _ _ _ => none) (slices_IndexFunc_ClaimUse__impl_share_c1_c1_0r N b.2.2.2.1 (b.2.2.2.1.length : Int)) (fun i d x => bif u.1 == x.1 then .inr (some ((i : Int), d)) else .inl d) (fun d => some (-1, d)) (fun _ d => d = u)
        (fun g i st h hi => ⟨by
          subst hi
          unfold slices_IndexFunc_ClaimUse__impl_share_c1_c1_0r
          simp only [dlt h, dge, gAt h, cond_true, wrS (show i ≤ 1000000000000000000 by omega)]
          rw [ob_eq (show impl_share_c1_c1 N b.2.2.2.1[i] (st.1, st.2.1, st.2.2) = some (st.1 == b.2.2.2.1[i].1, st) from rfl)]
          cases st.1 == b.2.2.2.1[i].1 <;> rfl, fun st' hs => by
          subst hi
          cases hp : st.1 == b.2.2.2.1[i].1 with
          | true => rw [hp] at hs; cases hs
          | false => rw [hp] at hs; cases hs; rfl⟩) (fun g d hd => by
          subst hd
          unfold slices_IndexFunc_ClaimUse__impl_share_c1_c1_0r
          rw [dnlt]; rfl) N (by omega) u rfl
      refine this.trans ?_
      have : ∀ (l : List Use) i, outW (fun d => some (-1, d)) (walkL (fun i (d : Use) (x : Use) => bif u.1 == x.1 then Sum.inr (some ((i : Int), d)) else Sum.inl d) i l u) = some (idxB (fun v : Use => u.1 == v.1) i l, u) := by
        intro l
        induction l with
        | nil => intro i; rfl
        | cons x xs ih =>
          intro i
          simp only [walkL, idxB]
          cases u.1 == x.1 with
          | false => simpa using ih (i + 1)
          | true => rfl
      exact this b.2.2.2.1 0
    rw [ob_eq (a := (b.2.2.2.1.any fun v => u.1 == v.1, u)) (by rw [ob_eq h, idxB_nonneg])]
  unfold impl_share slices_ContainsFunc_ClaimUse__impl_share_c1 share
  have h : slices_IndexFunc_ClaimUse__impl_share_c1 N a.2.2.2.1 b = some (idxB (fun u : Use => b.2.2.2.1.any fun v => u.1 == v.1) 0 a.2.2.2.1, b) := by
    unfold slices_IndexFunc_ClaimUse__impl_share_c1 slices_IndexFunc_ClaimUse__impl_share_c1b
    have := lp_walk a.2.2.2.1 (fun (g : Int → Int → Int → List Txt → List Use → List Txt → List Txt → Option (Int × Want)) i (d : Want) => g (i : Int) d.1 d.2.1 d.2.2.1 d.2.2.2.1 d.2.2.2.2.1 d.2.2.2.2.2) (fun _ _ _ _ _ _ _ => none) (slices_IndexFunc_ClaimUse__impl_share_c1_0r N a.2.2.2.1 (a.2.2.2.1.length : Int)) (fun i d x => bif b.2.2.2.1.any (fun v => x.1 == v.1) then .inr (some ((i : Int), d)) else .inl d) (fun d => some (-1, d)) (fun _ d => d = b)
      (fun g i st h hi => ⟨by
        subst hi
        unfold slices_IndexFunc_ClaimUse__impl_share_c1_0r
        simp only [dlt h, dge, gAt h, cond_true, wrS (show i ≤ 1000000000000000000 by omega)]
        rw [ob_eq (show impl_share_c1 N a.2.2.2.1[i] (st.1, st.2.1, st.2.2.1, st.2.2.2.1, st.2.2.2.2.1, st.2.2.2.2.2) = some (st.2.2.2.1.any fun v => a.2.2.2.1[i].1 == v.1, st) from inner _)]
        cases st.2.2.2.1.any fun v => a.2.2.2.1[i].1 == v.1 <;> rfl, fun st' hs => by
        subst hi
        cases hp : st.2.2.2.1.any (fun v => a.2.2.2.1[i].1 == v.1) with
        | true => rw [hp] at hs; cases hs
        | false => rw [hp] at hs; cases hs; rfl⟩) (fun g d hd => by
        subst hd
        unfold slices_IndexFunc_ClaimUse__impl_share_c1_0r
        rw [dnlt]; rfl) N (by omega) b rfl
    refine this.trans ?_
    have : ∀ (l : List Use) i, outW (fun d => some (-1, d)) (walkL (fun i (d : Want) (x : Use) => bif b.2.2.2.1.any (fun v => x.1 == v.1) then Sum.inr (some ((i : Int), d)) else Sum.inl d) i l b) = some (idxB (fun u : Use => b.2.2.2.1.any fun v => u.1 == v.1) i l, b) := by
      intro l
      induction l with
      | nil => intro i; rfl
      | cons x xs ih =>
        intro i
        simp only [walkL, idxB]
        cases b.2.2.2.1.any fun v => x.1 == v.1 with
        | false => simpa using ih (i + 1)
        | true => rfl
    exact this a.2.2.2.1 0
  rw [ob_eq (a := (a.2.2.2.1.any fun u => b.2.2.2.1.any fun v => u.1 == v.1, b)) (by rw [ob_eq h, idxB_nonneg])]

/-! Parts -/
def partI (b : Book) (i : Nat) (p : Part) : Bool := partOk b p && ((i == 0 || !decide ((b.2.2.2.1.getD (i - 1) dPart).1.1 ≥ p.1.1)) && (b.2.2.2.1.take i).all fun q => !share p.1 q.1 && !cross p.1 q.1)
def partsOk (b : Book) : Bool := !decide ((b.2.2.2.1.length : Int) > 6) && allI (partI b) 0 b.2.2.2.1
/-- A book is ok. -/
def bookOk (b : Book) : Bool := foesOk b && (nmsOk b.2.2.1 12 && (inB b.2.2.2.2 0 1000000 && (spotsOk b && partsOk b)))

theorem take_get {α : Type} {l : List α} {i k : Nat} (hk : k < (l.take i).length) : l[k]'(by simp at hk; omega) = (l.take i)[k] := by simp

theorem l2PartsOk {N : Nat} (hN : lim < N) {b : Book} (hb : smB b) : spec_l2PartsOk N b = some (partsOk b) := by
  have hlim := lim_eq
  have hlb := hb.2.2.2.1
  unfold spec_l2PartsOk spec_l2PartsOkb partsOk
  cases hlen : decide ((b.2.2.2.1.length : Int) > 6) with
  | true => rfl
  | false =>
    refine (lp_allI b.2.2.2.1 _ (partI b) (some false) (some true) (fun g i hi => ?_) (fun g => ?_) N (by omega)).trans ?_
    · have hp := hb.2.2.2.2 _ (List.getElem_mem hi)
      have inner : spec_l2PartsOk_2 N g b (i : Int) b.2.2.2.1[i].1.1 b.2.2.2.1[i].1.2.1 b.2.2.2.1[i].1.2.2.1 b.2.2.2.1[i].1.2.2.2.1 b.2.2.2.1[i].1.2.2.2.2.1 b.2.2.2.1[i].1.2.2.2.2.2 N 0 =
          bif (b.2.2.2.1.take i).all (fun q => !share b.2.2.2.1[i].1 q.1 && !cross b.2.2.2.1[i].1 q.1) then g ((i + 1 : Nat) : Int) else some false := by
        have hl : (b.2.2.2.1.take i).length = i := by simp; omega
        refine (lp_allI (b.2.2.2.1.take i) _ (fun _ q => !share b.2.2.2.1[i].1 q.1 && !cross b.2.2.2.1[i].1 q.1) (some false) (g ((i + 1 : Nat) : Int)) (fun g2 k hk => ?_) (fun g2 => ?_) N (by omega)).trans ?_
        · have hk' : k < b.2.2.2.1.length := by simp at hk; omega
          have hq := hb.2.2.2.2 _ (List.getElem_mem hk')
          have hki : k < i := by omega
          unfold spec_l2PartsOk_2r
          simp only [dlt hki, dlt hk', dge, gAt hk', cond_true, wrS (show k ≤ 1000000000000000000 by omega)]
          rw [ob_eq (show spec_l2Uses N (b.2.2.2.1[i].1.1, b.2.2.2.1[i].1.2.1, b.2.2.2.1[i].1.2.2.1, b.2.2.2.1[i].1.2.2.2.1, b.2.2.2.1[i].1.2.2.2.2.1, b.2.2.2.1[i].1.2.2.2.2.2) = _ from l2Uses hN hp), ob_eq (l2Uses hN hq), ob_eq (l2Share hN hp hq)]
          rw [← take_get hk]
          cases share b.2.2.2.1[i].1 b.2.2.2.1[k].1 with
          | true => rfl
          | false =>
            simp only [cond_false]
            rw [ob_eq (show spec_l2Crosses N (b.2.2.2.1[i].1.1, b.2.2.2.1[i].1.2.1, b.2.2.2.1[i].1.2.2.1, b.2.2.2.1[i].1.2.2.2.1, b.2.2.2.1[i].1.2.2.2.2.1, b.2.2.2.1[i].1.2.2.2.2.2) b.2.2.2.1[k].1 = _ from l2Crosses hN hp hq)]
            cases cross b.2.2.2.1[i].1 b.2.2.2.1[k].1 <;> rfl
        · unfold spec_l2PartsOk_2r
          rw [hl, dnlt, cond_false, wrS (by omega)]
        · rw [allI_all]
      unfold spec_l2PartsOk_0r partI
      simp only [dlt hi, dge, gAt hi, cond_true, wrS (show i ≤ 1000000000000000000 by omega), dgt0]
      rw [ob_eq (l2PartOk hN hb hp)]
      cases partOk b b.2.2.2.1[i] with
      | false => rfl
      | true =>
        cases h0 : i == 0 with
        | true =>
          simp only [Bool.not_true, cond_false, Bool.true_or, Bool.true_and]
          exact inner
        | false =>
          have h0' : 0 < i := by simp at h0; omega
          simp only [Bool.not_true, Bool.not_false, cond_true, cond_false, wrP (show i ≤ 1000000000000000000 by omega) h0', dge, dlt (show i - 1 < b.2.2.2.1.length by omega), gAt', Bool.false_or, Bool.true_and]
          cases decide ((b.2.2.2.1.getD (i - 1) dPart).1.1 ≥ b.2.2.2.1[i].1.1) with
          | true => rfl
          | false => exact inner
    · unfold spec_l2PartsOk_0r
      rw [dnlt]; rfl
    · cases allI (partI b) 0 b.2.2.2.1 <;> rfl

theorem specBookOk {N : Nat} (hN : lim < N) {b : Book} (hb : smB b) : spec_ClaimBookOk N b = some (bookOk b) := by
  have hlim := lim_eq
  have hls := hb.2.1.1
  have hlv : b.2.2.1.length ≤ 1048576 := hb.2.2.1.1
  unfold spec_ClaimBookOk spec_ClaimBookOkb bookOk spotsOk
  rw [ob_eq (l2FoesOk hN b)]
  simp only [ob_eq (l1NamesOk hN (show b.2.2.1.length ≤ lim by omega) 12), ob_eq (l1In b.2.2.2.2 0 1000000)]
  have loop : spec_ClaimBookOk_0 N b N 0 = some (allI (spotI b) 0 b.2.1 && partsOk b) := by
    refine (lp_allI b.2.1 _ (spotI b) (some false) (some (partsOk b)) (fun g i hi => ?_) (fun g => ?_) N (by omega)).trans ?_
    · unfold spec_ClaimBookOk_0r spotI
      simp only [dlt hi, dge, gAt hi, cond_true, wrS (show i ≤ 1000000000000000000 by omega), dgt0]
      rw [ob_eq (l2SpotOk hN hb.1.1 (hb.2.1.2 _ (List.getElem_mem hi)))]
      cases spotOk b b.2.1[i] with
      | false => rfl
      | true =>
        cases h0 : i == 0 with
        | true => rfl
        | false =>
          have h0' : 0 < i := by simp at h0; omega
          simp only [Bool.not_true, Bool.not_false, cond_true, cond_false, wrP (show i ≤ 1000000000000000000 by omega) h0', dge, dlt (show i - 1 < b.2.1.length by omega), gAt', Bool.false_or, Bool.true_and]
          cases Op.bytesLess (b.2.1.getD (i - 1) dSpot).1 b.2.1[i].1 <;> rfl
    · unfold spec_ClaimBookOk_0r
      rw [dnlt, cond_false, ob_eq (l2PartsOk hN hb)]
    · cases allI (spotI b) 0 b.2.1 <;> rfl
  rw [loop]
  cases foesOk b <;> cases decide ((b.2.1.length : Int) > 8) <;> cases nmsOk b.2.2.1 12 <;> cases inB b.2.2.2.2 0 1000000 <;> rfl

theorem most_of_spots {b : Book} (h : allI (spotI b) 0 b.2.1 = true) : ∀ s ∈ b.2.1, 0 ≤ s.2.2.2.1 := by
  intro s hs
  obtain ⟨i, hi⟩ := List.getElem?_of_mem hs
  have := allI_iff.1 h i s hi
  simp only [spotI, spotOk, inB, Bool.and_eq_true, decide_eq_true_eq] at this
  have := this.1.2.2.1
  omega

theorem implBookOk {N : Nat} (hN : lim < N) {b : Book} (hb : smB b) : impl_ClaimBookOk N b = some (bookOk b) := by
  have hlim := lim_eq
  have hlf := hb.1.1
  have hls := hb.2.1.1
  have hlv : b.2.2.1.length ≤ 1048576 := hb.2.2.1.1
  have hlp := hb.2.2.2.1
  unfold impl_ClaimBookOk impl_ClaimBookOkb bookOk foesOk spotsOk partsOk
  simp only [ob_eq (implNames hN (show b.2.2.1.length ≤ lim by omega) 12), ob_eq (implIn b.2.2.2.2 0 1000000)]
  have k4 : (∀ s ∈ b.2.1, 0 ≤ s.2.2.2.1) → impl_ClaimBookOk_4 N b (b.2.2.2.1.length : Int) N 0 = some (allI (partI b) 0 b.2.2.2.1) := by
    intro hm
    refine (lp_allI b.2.2.2.1 _ (partI b) (some false) (some true) (fun g i hi => ?_) (fun g => ?_) N (by omega)).trans ?_
    · have hp := hb.2.2.2.2 _ (List.getElem_mem hi)
      have inner : ∀ c6, impl_ClaimBookOk_6 N g b (b.2.2.2.1.length : Int) (i : Int) (b.2.2.2.1.take i) ((b.2.2.2.1.take i).length : Int) b.2.2.2.1[i].1.1 b.2.2.2.1[i].1.2.1 b.2.2.2.1[i].1.2.2.1 b.2.2.2.1[i].1.2.2.2.1 b.2.2.2.1[i].1.2.2.2.2.1 b.2.2.2.1[i].1.2.2.2.2.2 c6 N 0 =
          bif (b.2.2.2.1.take i).all (fun q => !share b.2.2.2.1[i].1 q.1 && !cross b.2.2.2.1[i].1 q.1) then g ((i + 1 : Nat) : Int) else some false := by
        intro c6
        have hl : (b.2.2.2.1.take i).length = i := by simp; omega
        refine (lp_allI (b.2.2.2.1.take i) _ (fun _ q => !share b.2.2.2.1[i].1 q.1 && !cross b.2.2.2.1[i].1 q.1) (some false) (g ((i + 1 : Nat) : Int)) (fun g2 k hk => ?_) (fun g2 => ?_) N (by omega)).trans ?_
        · have hk' : k < b.2.2.2.1.length := by simp at hk; omega
          have hq := hb.2.2.2.2 _ (List.mem_of_mem_take (List.getElem_mem hk))
          unfold impl_ClaimBookOk_6r
          simp only [dlt hk, dge, gAt hk, cond_true, wrS (show k ≤ 1000000000000000000 by omega)]
          rw [ob_eq (show impl_share N (b.2.2.2.1[i].1.1, b.2.2.2.1[i].1.2.1, b.2.2.2.1[i].1.2.2.1, b.2.2.2.1[i].1.2.2.2.1, b.2.2.2.1[i].1.2.2.2.2.1, b.2.2.2.1[i].1.2.2.2.2.2) (b.2.2.2.1.take i)[k].1 = _ from implShare hN hp hq)]
          cases share b.2.2.2.1[i].1 (b.2.2.2.1.take i)[k].1 with
          | true => rfl
          | false =>
            simp only [cond_false]
            rw [ob_eq (show impl_cross N (b.2.2.2.1[i].1.1, b.2.2.2.1[i].1.2.1, b.2.2.2.1[i].1.2.2.1, b.2.2.2.1[i].1.2.2.2.1, b.2.2.2.1[i].1.2.2.2.2.1, b.2.2.2.1[i].1.2.2.2.2.2) (b.2.2.2.1.take i)[k].1 = _ from implCross hN hp hq)]
            cases cross b.2.2.2.1[i].1 (b.2.2.2.1.take i)[k].1 <;> rfl
        · unfold impl_ClaimBookOk_6r
          rw [dnlt, cond_false, wrS (by omega)]
        · rw [allI_all]
      unfold impl_ClaimBookOk_4r partI
      simp only [dlt hi, dge, gAt hi, cond_true, wrS (show i ≤ 1000000000000000000 by omega), dgt0]
      have hle : decide ((i : Int) ≤ (b.2.2.2.1.length : Int)) = true := decide_eq_true (by omega)
      have hz : Int.toNat (0 : Int) = 0 := rfl
      have hi' : Int.toNat (i : Int) = i := rfl
      cases h0 : i == 0 with
      | true =>
        simp only [Bool.not_true, cond_false, Bool.true_or, Bool.true_and]
        rw [ob_eq (implPartOk hN hb hp hm)]
        cases partOk b b.2.2.2.1[i] with
        | false => rfl
        | true =>
          simp only [Bool.not_true, cond_false, hle, cond_true, hi', hz, List.drop_zero, Bool.true_and]
          exact inner _
      | false =>
        have h0' : 0 < i := by simp at h0; omega
        simp only [Bool.not_true, Bool.not_false, cond_true, cond_false, wrP (show i ≤ 1000000000000000000 by omega) h0', dge, dlt (show i - 1 < b.2.2.2.1.length by omega), gAt', Bool.false_or, Bool.true_and]
        cases decide ((b.2.2.2.1.getD (i - 1) dPart).1.1 ≥ b.2.2.2.1[i].1.1) with
        | true => simp
        | false =>
          rw [cond_false, ob_eq (implPartOk hN hb hp hm)]
          cases partOk b b.2.2.2.1[i] with
          | false => rfl
          | true =>
            simp only [Bool.not_true, Bool.not_false, cond_false, hle, cond_true, hi', hz, List.drop_zero, Bool.true_and]
            exact inner _
    · unfold impl_ClaimBookOk_4r
      rw [dnlt]; rfl
    · cases allI (partI b) 0 b.2.2.2.1 <;> rfl
  have k2 : impl_ClaimBookOk_2 N b (b.2.1.length : Int) N 0 = some (allI (spotI b) 0 b.2.1 && allI (partI b) 0 b.2.2.2.1) := by
    refine (lp_allI b.2.1 _ (spotI b) (some false) (impl_ClaimBookOk_4 N b (b.2.2.2.1.length : Int) N 0) (fun g i hi => ?_) (fun g => ?_) N (by omega)).trans ?_
    · have hs := hb.2.1.2 _ (List.getElem_mem hi)
      have h1 := hs.2.1
      unfold impl_ClaimBookOk_2r spotI spotOk
      simp only [dlt hi, dge, gAt hi, cond_true, wrS (show i ≤ 1000000000000000000 by omega), dgt0]
      rw [ob_eq (implName hN _)]
      have tail : (ob (impl_in N b.2.1[i].2.1 0 1000) false fun r => bif !r then some false else bif decide (b.2.1[i].2.2.1 < 0) then some false else bif decide (b.2.1[i].2.2.1 > b.2.1[i].2.2.2.1) then some false else bif decide (b.2.1[i].2.2.2.1 > b.2.1[i].2.1) then some false else
          ob (impl_names N b.2.1[i].2.2.2.2 8) false fun r => bif !r then some false else ob (impl_ClaimBook_foes N b b.2.1[i].2.2.2.2 b.2.1[i].2.2.2.2) false fun r => bif r then some false else g ((i + 1 : Nat) : Int)) =
          bif (inB b.2.1[i].2.1 0 1000 && (inB b.2.1[i].2.2.1 0 b.2.1[i].2.2.2.1 && (!decide (b.2.1[i].2.2.2.1 > b.2.1[i].2.1) && (nmsOk b.2.1[i].2.2.2.2 8 && !clash b b.2.1[i].2.2.2.2 b.2.1[i].2.2.2.2)))) then g ((i + 1 : Nat) : Int) else some false := by
        simp only [ob_eq (implIn b.2.1[i].2.1 0 1000), ob_eq (implNames hN (show b.2.1[i].2.2.2.2.length ≤ lim by omega) 8), ob_eq (implFoes hN hlf h1 h1)]
        have e1 : inB b.2.1[i].2.2.1 0 b.2.1[i].2.2.2.1 = (!decide (b.2.1[i].2.2.1 < 0) && !decide (b.2.1[i].2.2.1 > b.2.1[i].2.2.2.1)) := by
          unfold inB
          congr 1
          · by_cases h : b.2.1[i].2.2.1 < 0
            · rw [decide_eq_true h, decide_eq_false (by omega)]; rfl
            · rw [decide_eq_false h, decide_eq_true (by omega)]; rfl
          · by_cases h : b.2.1[i].2.2.1 > b.2.1[i].2.2.2.1
            · rw [decide_eq_true h, decide_eq_false (by omega)]; rfl
            · rw [decide_eq_false h, decide_eq_true (by omega)]; rfl
        rw [e1]
        cases inB b.2.1[i].2.1 0 1000 <;> cases decide (b.2.1[i].2.2.1 < 0) <;> cases decide (b.2.1[i].2.2.1 > b.2.1[i].2.2.2.1) <;> cases decide (b.2.1[i].2.2.2.1 > b.2.1[i].2.1) <;> cases nmsOk b.2.1[i].2.2.2.2 8 <;> cases clash b b.2.1[i].2.2.2.2 b.2.1[i].2.2.2.2 <;> rfl
      cases nmOk b.2.1[i].1 with
      | false => rfl
      | true =>
        cases h0 : i == 0 with
        | true =>
          simp only [Bool.not_true, cond_false, Bool.true_or, Bool.true_and, Bool.and_true]
          exact tail
        | false =>
          have h0' : 0 < i := by simp at h0; omega
          simp only [Bool.not_true, Bool.not_false, cond_true, cond_false, wrP (show i ≤ 1000000000000000000 by omega) h0', dge, dlt (show i - 1 < b.2.1.length by omega), gAt', Bool.false_or, Bool.true_and]
          cases Op.bytesLess (b.2.1.getD (i - 1) dSpot).1 b.2.1[i].1 with
          | false => simp
          | true =>
            simp only [Bool.not_true, cond_false, Bool.and_true]
            exact tail
    · unfold impl_ClaimBookOk_2r
      rw [dnlt]; rfl
    · cases hs : allI (spotI b) 0 b.2.1 with
      | false => rfl
      | true => rw [cond_true, k4 (most_of_spots hs)]; rfl
  have k0 : impl_ClaimBookOk_0 N b (b.1.length : Int) N 0 = some (allI (foeOk b) 0 b.1 && (allI (spotI b) 0 b.2.1 && allI (partI b) 0 b.2.2.2.1)) := by
    refine (lp_allI b.1 _ (foeOk b) (some false) (impl_ClaimBookOk_2 N b (b.2.1.length : Int) N 0) (fun g i hi => ?_) (fun g => ?_) N (by omega)).trans ?_
    · unfold impl_ClaimBookOk_0r foeOk
      simp only [dlt hi, dge, gAt hi, cond_true, wrS (show i ≤ 1000000000000000000 by omega), dgt0]
      rw [ob_eq (implName hN _)]
      simp only [ob_eq (implName hN b.1[i].2)]
      cases nmOk b.1[i].1 with
      | false => rfl
      | true =>
        cases nmOk b.1[i].2 with
        | false => rfl
        | true =>
          cases Op.bytesLess b.1[i].1 b.1[i].2 with
          | false => rfl
          | true =>
            cases h0 : i == 0 with
            | true => rfl
            | false =>
              have h0' : 0 < i := by simp at h0; omega
              simp only [Bool.not_true, Bool.not_false, cond_true, cond_false, wrP (show i ≤ 1000000000000000000 by omega) h0', dge, dlt (show i - 1 < b.1.length by omega), gAt', Bool.false_or, Bool.true_and]
              rw [ob_eq (implAhead _ _)]
              cases ahead (b.1.getD (i - 1) dFoe) b.1[i] <;> rfl
    · unfold impl_ClaimBookOk_0r
      rw [dnlt]; rfl
    · rw [k2]
      cases allI (foeOk b) 0 b.1 <;> rfl
  rw [k0]
  generalize decide ((b.1.length : Int) > 12) = x0
  generalize decide ((b.2.1.length : Int) > 8) = x1
  generalize decide ((b.2.2.2.1.length : Int) > 6) = x2
  generalize nmsOk b.2.2.1 12 = x3
  generalize inB b.2.2.2.2 0 1000000 = x4
  generalize allI (foeOk b) 0 b.1 = x5
  generalize allI (spotI b) 0 b.2.1 = x6
  generalize allI (partI b) 0 b.2.2.2.1 = x7
  revert x0 x1 x2 x3 x4 x5 x6 x7
  decide +kernel

theorem lawBookOk {N : Nat} (hN : lim < N) {b : Book} (hb : fitB b) : laws_FnExactClaimBookOk N b = some true := by
  obtain ⟨r, h1, h2, h3, h4⟩ := szClaimBook hN hb (left := 1048576) (by omega) (by omega)
  unfold laws_FnExactClaimBookOk
  rw [ob_eq h1]
  by_cases hn : r < 0
  · rw [decide_eq_true hn]; rfl
  · rw [decide_eq_false hn]
    have hs := h4 (by omega)
    simp only [cond_false, ob_eq (toClaimBook hN hs), ob_eq (specBookOk hN hs), ob_eq (implBookOk hN hs), ob_eq (eqClaimBook hN hs), bne_self_eq_false, beq_self_eq_true, Bool.not_true]

/-! The number under which a valve may be open -/
def mayN (b : Book) (v : Txt) : Int := bif bookOk b then (match b.2.2.2.1.find? fun p => !p.2 && p.1.2.2.2.2.1.contains v with
  | some p => p.1.1
  | none => 0) else 0
theorem lp_find {α ρ : Type} (l : List α) (rd : (Int → Option ρ) → Int → Option ρ) (p : α → Bool) (f : α → ρ) (z : ρ)
    (hstep : ∀ (g : Int → Option ρ) (i : Nat) (h : i < l.length), rd g (i : Int) = bif p l[i] then some (f l[i]) else g ((i + 1 : Nat) : Int))
    (hend : ∀ (g : Int → Option ρ), rd g (l.length : Int) = some z) (N : Nat) (hN : l.length < N) : lp (fun _ => none) rd N 0 = some (((l.find? p).map f).getD z) := by
  have := lp_walk l (fun (g : Int → Option ρ) i (_ : Unit) => g (i : Int)) (fun _ => none) rd (fun i _ x => bif p x then .inr (some (f x)) else .inl ()) (fun _ => some z) (fun _ _ => True)
    (fun g i st h _ => ⟨by
      rw [hstep g i h]
      cases p l[i] <;> rfl, fun _ _ => trivial⟩) (fun g _ _ => hend g) N hN () trivial
  refine this.trans ?_
  have : ∀ (l : List α) i, outW (fun _ => some z) (walkL (fun i (_ : Unit) x => bif p x then Sum.inr (some (f x)) else Sum.inl ()) i l ()) = some (((l.find? p).map f).getD z) := by
    intro l
    induction l with
    | nil => intro i; rfl
    | cons x xs ih =>
      intro i
      simp only [walkL, List.find?_cons]
      cases p x with
      | false => simpa using ih (i + 1)
      | true => rfl
  exact this l 0
def mayB (b : Book) (v : Txt) : Int := bif bookOk b then ((b.2.2.2.1.find? fun p => !p.2 && p.1.2.2.2.2.1.contains v).map fun p => p.1.1).getD 0 else 0
theorem specMay {N : Nat} (hN : lim < N) {b : Book} (hb : smB b) (v : Txt) : spec_ClaimMay N b v = some (mayB b v) := by
  have hlim := lim_eq
  have hlp := hb.2.2.2.1
  unfold spec_ClaimMay spec_ClaimMayb mayB
  rw [ob_eq (specBookOk hN hb)]
  cases bookOk b with
  | false => rfl
  | true =>
    refine lp_find b.2.2.2.1 _ (fun p => !p.2 && p.1.2.2.2.2.1.contains v) (fun p => p.1.1) 0 (fun g i hi => ?_) (fun g => ?_) N (by omega)
    · have h1 : b.2.2.2.1[i].1.2.2.2.2.1.length ≤ 1048576 := (hb.2.2.2.2 _ (List.getElem_mem hi)).2.2.1.1
      unfold spec_ClaimMay_0r
      simp only [dlt hi, dge, gAt hi, cond_true, wrS (show i ≤ 1000000000000000000 by omega)]
      rw [ob_eq (l1Has hN (show b.2.2.2.1[i].1.2.2.2.2.1.length ≤ lim by omega) v)]
      cases b.2.2.2.1[i].2 <;> cases b.2.2.2.1[i].1.2.2.2.2.1.contains v <;> rfl
    · unfold spec_ClaimMay_0r
      rw [dnlt]; rfl
theorem implMay {N : Nat} (hN : lim < N) {b : Book} (hb : smB b) (v : Txt) : impl_ClaimMay N b v = some (mayB b v) := by
  have hlim := lim_eq
  have hlp := hb.2.2.2.1
  unfold impl_ClaimMay impl_ClaimMayb mayB
  rw [ob_eq (implBookOk hN hb)]
  cases bookOk b with
  | false => rfl
  | true =>
    refine lp_find b.2.2.2.1 _ (fun p => !p.2 && p.1.2.2.2.2.1.contains v) (fun p => p.1.1) 0 (fun g i hi => ?_) (fun g => ?_) N (by omega)
    · have h1 : b.2.2.2.1[i].1.2.2.2.2.1.length ≤ 1048576 := (hb.2.2.2.2 _ (List.getElem_mem hi)).2.2.1.1
      unfold impl_ClaimMay_0r
      simp only [dlt hi, dge, gAt hi, cond_true, wrS (show i ≤ 1000000000000000000 by omega)]
      rw [ob_eq (slicesContains hN (show b.2.2.2.1[i].1.2.2.2.2.1.length ≤ lim by omega) v)]
      cases b.2.2.2.1[i].2 <;> cases b.2.2.2.1[i].1.2.2.2.2.1.contains v <;> rfl
    · unfold impl_ClaimMay_0r
      rw [dnlt]; rfl
theorem lawMay {N : Nat} (hN : lim < N) {b : Book} {v : Txt} (hb : fitB b) : laws_FnExactClaimMay N b v = some true := by
  obtain ⟨r, h1, h2, h3, h4⟩ := szClaimBook hN hb (left := 1048576) (by omega) (by omega)
  unfold laws_FnExactClaimMay
  cases decide ((v.length : Int) > 1048576) with
  | true => rfl
  | false =>
    rw [cond_false, ob_eq h1]
    by_cases hn : r < 0
    · rw [decide_eq_true hn]; rfl
    · rw [decide_eq_false hn]
      have hs := h4 (by omega)
      simp only [cond_false, ob_eq (toClaimBook hN hs), ob_eq (specMay hN hs v), ob_eq (implMay hN hs v), ob_eq (eqClaimBook hN hs), bne_self_eq_false, beq_self_eq_true, Bool.not_true]
end Go.MC

/- The law FnExactClaimMay returns true on every input: what the program tells is what the document tells, by the contracts of all functions that it reaches and a proof in plain Lean. There is no condition. -/
namespace Go.Proofs.Ytaihjhaabnfenaa.fnExactClaimMay
open Go.ChangeShapes Go.WideShapes Go.ChangeAt Go.RowKit Go.MC
open Go.ChangeMaps (open_string shut_string)
set_option linter.unusedVariables false
theorem own : ownKnob Try.prog.godebug = none := by kernel_rfl
theorem laidOut : laidOutB Try.prog = true := by kernel_rfl
set_option maxRecDepth 100000 in
theorem lifted (os : Os) (started : os.Started) (H : Type) (enc : TypeId × Value → H) :
    ReturnsInHanded {} Try.checked os 6 .any (Rows.fnExactClaimMaySpec.pre6 enc Try.prog Try.f6 Rows.fnExactClaimMayRow.domain false) (Rows.fnExactClaimMaySpec.post enc Try.prog Try.f6 false true false false) := by
  refine returnsInHanded_of_change_sized (C := Try.checked) own started (by kernel_rfl) Try.func6
    (ChangeSpec.witness6 (enc := enc) (C := Try.checked) false ⟨#[], #[.agg #[.slice none 0 0, .slice none 0 0, .slice none 0 0, .slice none 0 0, .int .i64 0], .string ByteArray.empty], []⟩ 8 (by kernel_rfl) (by kernel_rfl) (by kernel_rfl) (by kernel_rfl)) ?_
  intro W base args ds gs before hval0 hW hcnd hsz0 _
  have hsz : (DataW.weightsEach Try.prog (Try.f6.params.toList ++ Rows.fnExactClaimMaySpec.plain.varTypes Try.prog) (ds ++ gs)).all (· ≤ reachBytes) = true := hsz0
  have hval : ∀ (j : Nat) t v, Try.f6.params[j]? = some t → args[j]? = some v → Value.okWide Try.prog W .any base t v := hval0
  have hW' := hW
  obtain ⟨p, q, hA0, hV, rfl, hfz, hnd⟩ := hW
  have hA : DataW.TrodAll enc Try.prog W 0 (fun _ => true) true Try.f6.params.toList args.toList ds p := hA0
  rw [Try.params6] at hA hval hsz
  obtain ⟨v0, vs0, d0, ds0, p0, q0, hargs, rfl, rfl, h0, r0⟩ := trodAll_cons hA
  obtain ⟨v1, vs1, d1, ds1, p1, q1, rfl, rfl, rfl, h1, r1⟩ := trodAll_cons r0
  obtain ⟨rfl, rfl, rfl⟩ := trodAll_nil r1
  obtain rfl : args = #[v0, v1] := by cases args; simp_all
  obtain ⟨rfl, rfl⟩ := trodVars_none hV
  have lt0 : ∀ x ∈ p0, x.block < W.heap.size := by obtain ⟨m, hm⟩ := h0; exact DataW.trod_lt m _ _ _ hm
  obtain ⟨x0, cs0, hx0, hs0⟩ := arg_rd (n := 12) (t := tBook) (by kernel_rfl) (hval 0 39 v0 rfl rfl) h0 hsz (j := 0) rfl rfl
  have lt1 : ∀ x ∈ p1, x.block < W.heap.size := by obtain ⟨m, hm⟩ := h1; exact DataW.trod_lt m _ _ _ hm
  obtain ⟨x1, cs1, hx1, hs1⟩ := arg_rd (n := 12) (t := (.str)) (by kernel_rfl) (hval 1 9 v1 rfl rfl) h1 hsz (j := 1) rfl rfl
  clear hA0 hval0 hsz0 hsz
  have law : F.laws_FnExactClaimMay (lim + 1) x0 x1 = some true := lawMay (N := lim + 1) (Nat.lt_succ_self _) (fit_book hx0.fit)
  have hout := summ_out2 (f := F.laws_FnExactClaimMay (lim + 1)) law (rs := [.d .bool false]) (ts := [.bool]) (fz := false) (a := true) (b := false) (t := tBook) (u := (.str)) (x := x0) (y := x1) (r := true)
  refine (law_calls (con_laws_FnExactClaimMay (lim + 1)) (args := [v0, v1]) (ds := [⟨tBook, x0⟩, ⟨(.str), x1⟩]) ⟨v0, [v1], [v1], rfl, rfl, ⟨v1, [], [], rfl, rfl, ⟨rfl, rfl⟩⟩⟩
    ⟨v0, [v1], x0, [⟨(.str), x1⟩], cs0, rfl, rfl, hx0, hs0, ⟨v1, [], x1, [], cs1, rfl, rfl, hx1, hs1, ⟨rfl, rfl, rfl⟩⟩⟩ hout.1 hout.2 rfl).mono fun e W' ⟨he, bel⟩ => ?_
  subst he
  exact ⟨_, rfl, _, _, _, [], _, [], hW', trodAll_mk1 (shut_bool Try.underlying4 _), (trodAll_cons_mk (Below.trod laidOut (by kernel_rfl) (of_decide_eq_true (by kernel_rfl)) h0 bel lt0) (trodAll_cons_mk (Below.trod laidOut (by kernel_rfl) (of_decide_eq_true (by kernel_rfl)) h1 bel lt1) trodAll_mk0)), rfl, bel.frame _, fun h => by cases h⟩
theorem over : Rows.fnExactClaimMayRow.holds Try.pinned (OpenSpec.ofChange Rows.fnExactClaimMaySpec) :=
  OpenClaim.holds_of_wide 6 Try.f6 rfl rfl rfl rfl rfl rfl rfl ⟨rfl, rfl, rfl, rfl, rfl⟩ rfl rfl rfl rfl rfl (by kernel_rfl) Try.func6 (by kernel_rfl)
    (of_decide_eq_true (by kernel_rfl)) (by unfold Func.isWrapper; first | (rw [if_pos (by decide +kernel)]; kernel_rfl) | (rw [if_neg (by decide +kernel)]; exact ⟨rfl, rfl⟩))
    (fun os started H enc _ => lifted os started H enc)
theorem proved : Rows.FnExactClaimMaySaid := over
#print axioms proved
end Go.Proofs.Ytaihjhaabnfenaa.fnExactClaimMay
namespace Go.Proofs.Ytaihjhaabnfenaa
/-- The row, under a short name, for the claim. -/
theorem fnExactClaimMay_holds : Rows.FnExactClaimMaySaid := fnExactClaimMay.proved
end Go.Proofs.Ytaihjhaabnfenaa


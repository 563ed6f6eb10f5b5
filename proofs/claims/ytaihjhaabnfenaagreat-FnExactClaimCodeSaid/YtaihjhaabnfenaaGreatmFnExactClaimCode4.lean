/- The law FnExactClaimCode returns true on every input: what the program tells is what the document tells, by the contracts of all functions that it reaches and a proof in plain Lean. There is no condition. -/
import Derived.Test.YtaihjhaabnfenaaGreatmFnExactClaimCode3
import Derived.Test.YtaihjhaabnfenaaGreatmFnExactClaimCode2
import Derived.Test.YtaihjhaabnfenaaGreatmFnExactClaimCode1
import Derived.Test.YtaihjhaabnfenaaGreatRows
import Derived.WalkKit
import Derived.ProofKit
import Derived.OpenShut
import Derived.ShutString
import Derived.ChangeOld
import Derived.Below
import Derived.SizedLaws
import Derived.Carry
/- What the functions that ClaimWantOk reaches tell, in short words. -/
set_option linter.unusedVariables false
set_option linter.unusedSimpArgs false
namespace Go.MC
open Go.MC.F

/-! Sizes -/
def smT (s : Txt) : Prop := s.length ≤ 1048576
def smL (l : List Txt) : Prop := l.length ≤ 1048576 ∧ ∀ x ∈ l, smT x
def smU (u : Use) : Prop := smT u.1
def smW (w : Want) : Prop := smL w.2.2.1 ∧ (w.2.2.2.1.length ≤ 1048576 ∧ ∀ u ∈ w.2.2.2.1, smU u) ∧ smL w.2.2.2.2.1 ∧ smL w.2.2.2.2.2

/-- A loop that counts down what is left. -/
theorem sz_loop {α : Type} (l : List α) (hl : l.length ≤ lim) (e : α → Int → Int) (P : α → Prop) (rd : (Int → Int → Option Int) → Int → Int → Option Int)
    (he : ∀ x ∈ l, ∀ st : Int, 0 ≤ st → st ≤ 1048576 → e x st ≤ st ∧ -1 ≤ e x st ∧ (0 ≤ e x st → P x))
    (hstep : ∀ (g : Int → Int → Option Int) (i : Nat) (st : Int) (h : i < l.length), 0 ≤ st → st ≤ 1048576 → rd g st (i : Int) = if e l[i] st < 0 then some (-1) else g (e l[i] st) ((i + 1 : Nat) : Int))
    (hend : ∀ (g : Int → Int → Option Int) (st : Int), rd g st (l.length : Int) = some st) (N : Nat) (hN : l.length < N) (left : Int) (h0 : 0 ≤ left) (h1 : left ≤ 1048576) :
    ∃ r, lp (fun _ _ => none) rd N left 0 = some r ∧ r ≤ left ∧ -1 ≤ r ∧ (0 ≤ r → ∀ x ∈ l, P x) := by
  have h := lp_walk l (fun (g : Int → Int → Option Int) i (st : Int) => g st (i : Int)) (fun _ _ => none) rd (fun _ st x => if e x st < 0 then .inr (some (-1)) else .inl (e x st)) (fun st => some st) (fun _ st => 0 ≤ st ∧ st ≤ 1048576)
    (fun g i st h hi => ⟨by
      rw [hstep g i st h hi.1 hi.2]
      split <;> rfl, fun st' hs => by
      split at hs
      · cases hs
      · cases hs
        have := he _ (List.getElem_mem h) st hi.1 hi.2
        omega⟩) (fun g st _ => hend g st) N hN left ⟨h0, h1⟩
  have h : lp (fun _ _ => none) rd N left 0 = _ := h
  rw [h]
  clear h hstep hend
  suffices H : ∀ (l : List α) (i : Nat) (st : Int), (∀ x ∈ l, ∀ st : Int, 0 ≤ st → st ≤ 1048576 → e x st ≤ st ∧ -1 ≤ e x st ∧ (0 ≤ e x st → P x)) → 0 ≤ st → st ≤ 1048576 →
      ∃ r, outW (fun st => some st) (walkL (fun (_ : Nat) st x => if e x st < 0 then Sum.inr (some (-1)) else Sum.inl (e x st)) i l st) = some r ∧ r ≤ st ∧ -1 ≤ r ∧ (0 ≤ r → ∀ x ∈ l, P x) from H l 0 left he h0 h1
  intro l
  induction l with
  | nil => exact fun i st _ h0 h1 => ⟨st, rfl, by omega, by omega, fun _ x hx => by simp at hx⟩
  | cons x xs ih =>
    intro i st he h0 h1
    have hx := he x (by simp) st h0 h1
    simp only [walkL]
    by_cases hneg : e x st < 0
    · rw [if_pos hneg]
      exact ⟨-1, rfl, by omega, by omega, fun h => by omega⟩
    · rw [if_neg hneg]
      obtain ⟨r, h2, h3, h4, h5⟩ := ih (i + 1) (e x st) (fun y hy => he y (by simp [hy])) (by omega) (by omega)
      exact ⟨r, h2, by omega, h4, fun hr y hy => by
        rcases List.mem_cons.1 hy with rfl | hy
        · exact hx.2.2 (by omega)
        · exact h5 hr y hy⟩

theorem szStringS {N : Nat} (hN : lim < N) {a : List Txt} (ha : a.length ≤ lim) (hx : ∀ x ∈ a, x.length ≤ lim) {left : Int} (h0 : 0 ≤ left) (h1 : left ≤ 1048576) :
    ∃ r, laws_szStringS N a left = some r ∧ r ≤ left ∧ -1 ≤ r ∧ (0 ≤ r → smL a) := by
  have hlim := lim_eq
  unfold laws_szStringS laws_szStringSb
  rw [wr (n := left - a.length) (by omega) (by omega)]
  by_cases hneg : left - (a.length : Int) < 0
  · rw [decide_eq_true hneg]
    exact ⟨-1, rfl, by omega, by omega, fun h => by omega⟩
  · rw [decide_eq_false hneg]
    obtain ⟨r, h2, h3, h4, h5⟩ := sz_loop a ha (fun x st => if st < x.length then -1 else st - x.length) (fun x => smT x) (laws_szStringS_0r N a) (fun x hm st h0 h1 => by
      unfold smT
      split <;> omega) (fun g i st h h0 h1 => by
        have := hx _ (List.getElem_mem h)
        unfold laws_szStringS_0r
        simp only [dlt h, dge, gAt h, cond_true, wrS (show i ≤ 1000000000000000000 by omega)]
        rw [wr (by omega) (by omega)]
        by_cases hn : st - (a[i].length : Int) < 0
        · rw [decide_eq_true hn, if_pos (by rw [if_pos (by omega)]; omega)]; rfl
        · rw [decide_eq_false hn, if_neg (by rw [if_neg (by omega)]; omega), if_neg (by omega)]; rfl) (fun g st => by
        unfold laws_szStringS_0r
        rw [dnlt]; rfl) N (by omega) (left - a.length) (by omega) (by omega)
    exact ⟨r, h2, by omega, h4, fun h => ⟨by omega, h5 h⟩⟩
theorem szClaimUse {N : Nat} {u : Use} (hx : u.1.length ≤ lim) {left : Int} (h0 : 0 ≤ left) (h1 : left ≤ 1048576) :
    laws_szClaimUse N u left = some (if left < u.1.length then -1 else left - u.1.length) := by
  have hlim := lim_eq
  unfold laws_szClaimUse
  rw [wr (by omega) (by omega)]
  by_cases hn : left - (u.1.length : Int) < 0
  · rw [decide_eq_true hn, if_pos (by omega)]; rfl
  · rw [decide_eq_false hn, if_neg (by omega)]; rfl

theorem szClaimUseS {N : Nat} (hN : lim < N) {a : List Use} (ha : a.length ≤ lim) (hx : ∀ x ∈ a, x.1.length ≤ lim) {left : Int} (h0 : 0 ≤ left) (h1 : left ≤ 1048576) :
    ∃ r, laws_szClaimUseS N a left = some r ∧ r ≤ left ∧ -1 ≤ r ∧ (0 ≤ r → a.length ≤ 1048576 ∧ ∀ u ∈ a, smU u) := by
  have hlim := lim_eq
  unfold laws_szClaimUseS laws_szClaimUseSb
  rw [wr (n := left - a.length) (by omega) (by omega)]
  by_cases hneg : left - (a.length : Int) < 0
  · rw [decide_eq_true hneg]
    exact ⟨-1, rfl, by omega, by omega, fun h => by omega⟩
  · rw [decide_eq_false hneg]
    obtain ⟨r, h2, h3, h4, h5⟩ := sz_loop a ha (fun x st => if st < x.1.length then -1 else st - x.1.length) (fun x => smU x) (laws_szClaimUseS_0r N a) (fun x hm st h0 h1 => by
      unfold smU smT
      split <;> omega) (fun g i st h h0 h1 => by
        have := hx _ (List.getElem_mem h)
        unfold laws_szClaimUseS_0r
        simp only [dlt h, dge, gAt h, cond_true, wrS (show i ≤ 1000000000000000000 by omega)]
        rw [ob_eq (szClaimUse this h0 h1)]
        by_cases hn : (if st < (a[i].1.length : Int) then -1 else st - (a[i].1.length : Int)) < 0
        · rw [decide_eq_true hn, if_pos hn]; rfl
        · rw [decide_eq_false hn, if_neg hn]; rfl) (fun g st => by
        unfold laws_szClaimUseS_0r
        rw [dnlt]; rfl) N (by omega) (left - a.length) (by omega) (by omega)
    exact ⟨r, h2, by omega, h4, fun h => ⟨by omega, h5 h⟩⟩

theorem szNext {o : Option Int} {left : Int} {A B : Prop} (h0 : 0 ≤ left) (h1 : left ≤ 1048576) (h : ∃ r, o = some r ∧ r ≤ left ∧ -1 ≤ r ∧ (0 ≤ r → A)) {B' : Int → Option Int} (hB : ∀ r, 0 ≤ r → r ≤ 1048576 → ∃ q, B' r = some q ∧ q ≤ r ∧ -1 ≤ q ∧ (0 ≤ q → B)) :
    ∃ r, (ob o (Int.ofNat 0) fun r => bif decide (r < 0) then some (-1) else B' r) = some r ∧ r ≤ left ∧ -1 ≤ r ∧ (0 ≤ r → A ∧ B) := by
  obtain ⟨r, rfl, h2, h3, h4⟩ := h
  rw [ob_eq rfl]
  by_cases hn : r < 0
  · rw [decide_eq_true hn]
    exact ⟨-1, rfl, by omega, by omega, fun h => by omega⟩
  · rw [decide_eq_false hn]
    obtain ⟨q, h5, h6, h7, h8⟩ := hB r (by omega) (by omega)
    exact ⟨q, h5, by omega, h7, fun h => ⟨h4 (by omega), h8 h⟩⟩
theorem szLast {o : Option Int} {left : Int} {A : Prop} (h : ∃ r, o = some r ∧ r ≤ left ∧ -1 ≤ r ∧ (0 ≤ r → A)) :
    ∃ r, (ob o (Int.ofNat 0) fun r => bif decide (r < 0) then some (-1) else some r) = some r ∧ r ≤ left ∧ -1 ≤ r ∧ (0 ≤ r → A) := by
  obtain ⟨r, rfl, h2, h3, h4⟩ := h
  rw [ob_eq rfl]
  by_cases hn : r < 0
  · rw [decide_eq_true hn]
    exact ⟨-1, rfl, by omega, by omega, fun h => by omega⟩
  · rw [decide_eq_false hn]
    exact ⟨r, rfl, h2, h3, h4⟩

/-- What fits. -/
def fitW (w : Want) : Prop := (w.2.2.1.length ≤ lim ∧ ∀ x ∈ w.2.2.1, x.length ≤ lim) ∧ (w.2.2.2.1.length ≤ lim ∧ ∀ u ∈ w.2.2.2.1, u.1.length ≤ lim) ∧ (w.2.2.2.2.1.length ≤ lim ∧ ∀ x ∈ w.2.2.2.2.1, x.length ≤ lim) ∧ (w.2.2.2.2.2.length ≤ lim ∧ ∀ x ∈ w.2.2.2.2.2, x.length ≤ lim)

theorem szClaimWant {N : Nat} (hN : lim < N) {w : Want} (hw : fitW w) {left : Int} (h0 : 0 ≤ left) (h1 : left ≤ 1048576) :
    ∃ r, laws_szClaimWant N w left = some r ∧ r ≤ left ∧ -1 ≤ r ∧ (0 ≤ r → smW w) := by
  obtain ⟨⟨a1, a2⟩, ⟨b1, b2⟩, ⟨c1, c2⟩, ⟨d1, d2⟩⟩ := hw
  exact szNext h0 h1 (szStringS hN a1 a2 h0 h1) fun r h0 h1 => szNext h0 h1 (szClaimUseS hN b1 b2 h0 h1) fun r h0 h1 => szNext h0 h1 (szStringS hN c1 c2 h0 h1) fun r h0 h1 => szLast (szStringS hN d1 d2 h0 h1)

/-! Copies -/
theorem toStringS {N : Nat} (hN : lim < N) {a : List Txt} (h : a.length ≤ 1048576) : laws_toStringS N a = some a := by
  have hlim := lim_eq
  unfold laws_toStringS laws_toStringSb
  have h1 : (decide (((a.length : Nat) : Int).toNat * 16 ≤ lim) && (Nat.ble 1 16 && true)) = true := by
    rw [decide_eq_true (by rw [Int.toNat_natCast]; omega)]; rfl
  simp only [h1, cond_true, decide_true]
  refine (lp_set (l := a) (fun x => x) (fun f i out hi ho => ?_) (fun f out => ?_) (by omega) (by simp)).trans (by simp)
  · unfold laws_toStringS_0r
    simp only [dlt hi, dge, gAt hi, cond_true, wrS (show i ≤ 1000000000000000000 by omega), dlt (show i < out.length by omega)]
    rfl
  · unfold laws_toStringS_0r
    rw [dnlt]; rfl

theorem toClaimUseS {N : Nat} (hN : lim < N) {a : List Use} (h : a.length ≤ 1048576) : laws_toClaimUseS N a = some a := by
  have hlim := lim_eq
  unfold laws_toClaimUseS laws_toClaimUseSb
  have h1 : (decide (((a.length : Nat) : Int).toNat * 32 ≤ lim) && (Nat.ble 1 32 && true)) = true := by
    rw [decide_eq_true (by rw [Int.toNat_natCast]; omega)]; rfl
  simp only [h1, cond_true, decide_true]
  refine (lp_set (l := a) (fun x => x) (fun f i out hi ho => ?_) (fun f out => ?_) (by omega) (by simp)).trans (by simp)
  · unfold laws_toClaimUseS_0r
    simp only [dlt hi, dge, gAt hi, cond_true, wrS (show i ≤ 1000000000000000000 by omega), dlt (show i < out.length by omega)]
    rw [ob_eq (show laws_toClaimUse N a[i] = some a[i] from rfl)]
    rfl
  · unfold laws_toClaimUseS_0r
    rw [dnlt]; rfl

theorem toClaimWant {N : Nat} (hN : lim < N) {w : Want} (h : smW w) : laws_toClaimWant N w = some w := by
  obtain ⟨h1, h2, h3, h4⟩ := h
  unfold laws_toClaimWant
  rw [ob_eq (toStringS hN h1.1), ob_eq (toClaimUseS hN h2.1), ob_eq (toStringS hN h3.1), ob_eq (toStringS hN h4.1)]

/-! The same is the same -/
theorem ne_self_i (n : Int) : (n != n) = false := by simp
theorem eqStringS {N : Nat} (hN : lim < N) {a : List Txt} (h : a.length ≤ 1048576) : laws_eqStringS N a a = some true := by
  have hlim := lim_eq
  unfold laws_eqStringS laws_eqStringSb
  simp only [bne_self_eq_false, cond_false]
  refine (lp_allI a _ (fun _ _ => true) (some false) (some true) (fun g i hi => ?_) (fun g => ?_) N (by omega)).trans ?_
  · unfold laws_eqStringS_0r
    simp only [dlt hi, dge, gAt hi, cond_true, wrS (show i ≤ 1000000000000000000 by omega), beq_self_eq_true, Bool.not_true, cond_false]
  · unfold laws_eqStringS_0r
    rw [dnlt]; rfl
  · rw [show allI (fun _ (_ : Txt) => true) 0 a = true from allI_iff.2 fun _ _ _ => rfl]; rfl
theorem eqClaimUse {N : Nat} (u : Use) : laws_eqClaimUse N u u = some true := by
  unfold laws_eqClaimUse
  simp
theorem eqClaimUseS {N : Nat} (hN : lim < N) {a : List Use} (h : a.length ≤ 1048576) : laws_eqClaimUseS N a a = some true := by
  have hlim := lim_eq
  unfold laws_eqClaimUseS laws_eqClaimUseSb
  simp only [bne_self_eq_false, cond_false]
  refine (lp_allI a _ (fun _ _ => true) (some false) (some true) (fun g i hi => ?_) (fun g => ?_) N (by omega)).trans ?_
  · unfold laws_eqClaimUseS_0r
    simp only [dlt hi, dge, gAt hi, cond_true, wrS (show i ≤ 1000000000000000000 by omega)]
    rw [ob_eq (eqClaimUse _)]; rfl
  · unfold laws_eqClaimUseS_0r
    rw [dnlt]; rfl
  · rw [show allI (fun _ (_ : Use) => true) 0 a = true from allI_iff.2 fun _ _ _ => rfl]; rfl
theorem eqClaimWant {N : Nat} (hN : lim < N) {w : Want} (h : smW w) : laws_eqClaimWant N w w = some true := by
  obtain ⟨h1, h2, h3, h4⟩ := h
  unfold laws_eqClaimWant
  simp only [bne_self_eq_false, cond_false]
  rw [ob_eq (eqStringS hN h1.1)]
  simp only [Bool.not_true, cond_false]
  rw [ob_eq (eqClaimUseS hN h2.1)]
  simp only [Bool.not_true, cond_false]
  rw [ob_eq (eqStringS hN h3.1)]
  simp only [Bool.not_true, cond_false]
  rw [ob_eq (eqStringS hN h4.1)]
  simp only [Bool.not_true, cond_false]

/-! Names -/
def inB (n lo hi : Int) : Bool := decide (n ≥ lo) && decide (n ≤ hi)
theorem l1In {N : Nat} (n lo hi : Int) : spec_l1In N n lo hi = some (inB n lo hi) := by
  unfold spec_l1In inB
  cases decide (n ≥ lo) <;> rfl
theorem implIn {N : Nat} (n lo hi : Int) : impl_in N n lo hi = some (inB n lo hi) := by
  unfold impl_in inB
  cases decide (n ≥ lo) <;> rfl

def nmB (b : UInt8) : Bool := (decide ((b.toNat : Int) ≥ 97) && decide ((b.toNat : Int) ≤ 122)) || ((decide ((b.toNat : Int) ≥ 48) && decide ((b.toNat : Int) ≤ 57)) || ((b.toNat : Int) == 45))
def nmOk (s : Txt) : Bool := inB s.length 1 8 && s.all nmB

theorem l1NameOk {N : Nat} (hN : lim < N) (s : Txt) : spec_l1NameOk N s = some (nmOk s) := by
  have hlim := lim_eq
  unfold spec_l1NameOk spec_l1NameOkb nmOk
  rw [ob_eq (l1In _ _ _)]
  cases hb : inB s.length 1 8 with
  | false => rfl
  | true =>
    have hl : s.length ≤ 8 := by
      simp only [inB, Bool.and_eq_true, decide_eq_true_eq] at hb
      omega
    refine (lp_allI s _ (fun _ x => nmB x) (some false) (some true) (fun g i hi => ?_) (fun g => ?_) N (by omega)).trans ?_
    · unfold spec_l1NameOk_0r
      simp only [dlt hi, dge, gAt hi, cond_true, wrS (show i ≤ 1000000000000000000 by omega), nmB]
      generalize decide ((s[i].toNat : Int) ≥ 97) = a1
      generalize decide ((s[i].toNat : Int) ≤ 122) = a2
      generalize decide ((s[i].toNat : Int) ≥ 48) = a3
      generalize decide ((s[i].toNat : Int) ≤ 57) = a4
      generalize ((s[i].toNat : Int) == 45) = a5
      cases a1 <;> cases a2 <;> cases a3 <;> cases a4 <;> cases a5 <;> rfl
    · unfold spec_l1NameOk_0r
      rw [dnlt]; rfl
    · rw [allI_all]
      cases s.all nmB <;> rfl
theorem implName {N : Nat} (hN : lim < N) (s : Txt) : impl_name N s = some (nmOk s) := by
  have hlim := lim_eq
  unfold impl_name impl_nameb nmOk
  rw [ob_eq (implIn _ _ _)]
  cases hb : inB s.length 1 8 with
  | false => rfl
  | true =>
    have hl : s.length ≤ 8 := by
      simp only [inB, Bool.and_eq_true, decide_eq_true_eq] at hb
      omega
    refine (lp_allI s _ (fun _ x => nmB x) (some false) (some true) (fun g i hi => ?_) (fun g => ?_) N (by omega)).trans ?_
    · unfold impl_name_0r
      simp only [dlt hi, dge, gAt hi, cond_true, wrS (show i ≤ 1000000000000000000 by omega), nmB]
      generalize decide ((s[i].toNat : Int) ≥ 97) = a1
      generalize decide ((s[i].toNat : Int) ≤ 122) = a2
      generalize decide ((s[i].toNat : Int) ≥ 48) = a3
      generalize decide ((s[i].toNat : Int) ≤ 57) = a4
      generalize ((s[i].toNat : Int) == 45) = a5
      cases a1 <;> cases a2 <;> cases a3 <;> cases a4 <;> cases a5 <;> rfl
    · unfold impl_name_0r
      rw [dnlt]; rfl
    · rw [allI_all]
      cases s.all nmB <;> rfl

/-- Ascending names, not too many. -/
def ascI (l : List Txt) (i : Nat) (x : Txt) : Bool := i == 0 || Op.bytesLess (l.getD (i - 1) []) x
def nmsOk (l : List Txt) (most : Int) : Bool := !decide ((l.length : Int) > most) && allI (fun i x => nmOk x && ascI l i x) 0 l

theorem l1NamesOk {N : Nat} (hN : lim < N) {l : List Txt} (hl : l.length ≤ lim) (most : Int) : spec_l1NamesOk N l most = some (nmsOk l most) := by
  have hlim := lim_eq
  unfold spec_l1NamesOk spec_l1NamesOkb nmsOk
  cases hb : decide ((l.length : Int) > most) with
  | true => rfl
  | false =>
    refine (lp_allI l _ (fun i x => nmOk x && ascI l i x) (some false) (some true) (fun g i hi => ?_) (fun g => ?_) N (by omega)).trans ?_
    · unfold spec_l1NamesOk_0r ascI
      simp only [dlt hi, dge, gAt hi, cond_true, wrS (show i ≤ 1000000000000000000 by omega), dgt0]
      rw [ob_eq (l1NameOk hN _)]
      cases nmOk l[i] with
      | false => rfl
      | true =>
        cases h0 : i == 0 with
        | true => simp
        | false =>
          have h0' : 0 < i := by simp at h0; omega
          simp only [Bool.not_true, Bool.not_false, cond_true, cond_false, wrP (show i ≤ 1000000000000000000 by omega) h0', dge, dlt (show i - 1 < l.length by omega), gAt', Bool.false_or, Bool.true_and]
          cases Op.bytesLess (l.getD (i - 1) []) l[i] <;> rfl
    · unfold spec_l1NamesOk_0r
      rw [dnlt]; rfl
    · cases allI (fun i x => nmOk x && ascI l i x) 0 l <;> rfl
theorem implNames {N : Nat} (hN : lim < N) {l : List Txt} (hl : l.length ≤ lim) (most : Int) : impl_names N l most = some (nmsOk l most) := by
  have hlim := lim_eq
  unfold impl_names impl_namesb nmsOk
  cases hb : decide ((l.length : Int) > most) with
  | true => rfl
  | false =>
    refine (lp_allI l _ (fun i x => nmOk x && ascI l i x) (some false) (some true) (fun g i hi => ?_) (fun g => ?_) N (by omega)).trans ?_
    · unfold impl_names_0r ascI
      simp only [dlt hi, dge, gAt hi, cond_true, wrS (show i ≤ 1000000000000000000 by omega), dgt0]
      rw [ob_eq (implName hN _)]
      cases nmOk l[i] with
      | false => rfl
      | true =>
        cases h0 : i == 0 with
        | true => simp
        | false =>
          have h0' : 0 < i := by simp at h0; omega
          simp only [Bool.not_true, Bool.not_false, cond_true, cond_false, wrP (show i ≤ 1000000000000000000 by omega) h0', dge, dlt (show i - 1 < l.length by omega), gAt', Bool.false_or, Bool.true_and]
          cases Op.bytesLess (l.getD (i - 1) []) l[i] <;> rfl
    · unfold impl_names_0r
      rw [dnlt]; rfl
    · cases allI (fun i x => nmOk x && ascI l i x) 0 l <;> rfl

/-! Lists of names -/
theorem l1Has {N : Nat} (hN : lim < N) {l : List Txt} (hl : l.length ≤ lim) (s : Txt) : spec_l1Has N l s = some (l.contains s) := by
  have hlim := lim_eq
  unfold spec_l1Has spec_l1Hasb
  refine (lp_allI l _ (fun _ x => !(x == s)) (some true) (some false) (fun g i hi => ?_) (fun g => ?_) N (by omega)).trans ?_
  · unfold spec_l1Has_0r
    simp only [dlt hi, dge, gAt hi, cond_true, wrS (show i ≤ 1000000000000000000 by omega)]
    cases l[i] == s <;> rfl
  · unfold spec_l1Has_0r
    rw [dnlt]; rfl
  · rw [allI_all, List.contains_eq_any_beq]
    have : l.all (fun x => !(x == s)) = !(l.any fun a => s == a) := by
      rw [List.not_any_eq_all_not]
      congr 1; funext x
      rw [Bool.beq_comm]
    rw [this]
    cases l.any fun a => s == a <;> rfl
theorem l1Share {N : Nat} (hN : lim < N) {a b : List Txt} (ha : a.length ≤ lim) (hb : b.length ≤ lim) : spec_l1Share N a b = some (a.any fun x => b.contains x) := by
  have hlim := lim_eq
  unfold spec_l1Share spec_l1Shareb
  refine (lp_allI a _ (fun _ x => !(b.contains x)) (some true) (some false) (fun g i hi => ?_) (fun g => ?_) N (by omega)).trans ?_
  · unfold spec_l1Share_0r
    simp only [dlt hi, dge, gAt hi, cond_true, wrS (show i ≤ 1000000000000000000 by omega)]
    rw [ob_eq (l1Has hN hb _)]
    cases b.contains a[i] <;> rfl
  · unfold spec_l1Share_0r
    rw [dnlt]; rfl
  · rw [allI_all]
    have : a.all (fun x => !(b.contains x)) = !(a.any fun x => b.contains x) := by rw [List.not_any_eq_all_not]
    rw [this]
    cases a.any fun x => b.contains x <;> rfl

/-- Where it first stands, -1 if nowhere. -/
def idxB {α : Type} (p : α → Bool) : Nat → List α → Int
  | _, [] => -1
  | i, x :: xs => bif p x then (i : Int) else idxB p (i + 1) xs
theorem idxB_nonneg {α : Type} (p : α → Bool) : ∀ (l : List α) (i : Nat), decide (idxB p i l ≥ 0) = l.any p
  | [], _ => rfl
  | x :: xs, i => by
    simp only [idxB, List.any_cons]
    by_cases h : p x = true
    · simp [h]
    · simpa [h] using idxB_nonneg p xs (i + 1)
/-- A loop that looks for the first that fits. -/
theorem lp_idx {α : Type} (l : List α) (rd : (Int → Option Int) → Int → Option Int) (p : α → Bool)
    (hstep : ∀ (g : Int → Option Int) (i : Nat) (h : i < l.length), rd g (i : Int) = bif p l[i] then some (i : Int) else g ((i + 1 : Nat) : Int))
    (hend : ∀ (g : Int → Option Int), rd g (l.length : Int) = some (-1)) (N : Nat) (hN : l.length < N) : lp (fun _ => none) rd N 0 = some (idxB p 0 l) := by
  have := lp_walk l (fun (g : Int → Option Int) i (_ : Unit) => g (i : Int)) (fun _ => none) rd (fun i _ x => bif p x then .inr (some (i : Int)) else .inl ()) (fun _ => some (-1)) (fun _ _ => True)
    (fun g i st h _ => ⟨by
      rw [hstep g i h]
      cases p l[i] <;> rfl, fun _ _ => trivial⟩) (fun g _ _ => hend g) N hN () trivial
  refine this.trans ?_
  have : ∀ (l : List α) i, outW (fun _ => some (-1)) (walkL (fun i (_ : Unit) x => bif p x then Sum.inr (some (i : Int)) else Sum.inl ()) i l ()) = some (idxB p i l) := by
    intro l
    induction l with
    | nil => intro i; rfl
    | cons x xs ih =>
      intro i
      simp only [walkL, idxB]
      cases p x with
      | false => simpa using ih (i + 1)
      | true => rfl
  exact this l 0
theorem slicesIndex {N : Nat} (hN : lim < N) {l : List Txt} (hl : l.length ≤ lim) (s : Txt) : slices_Index_string N l s = some (idxB (fun x => s == x) 0 l) := by
  have hlim := lim_eq
  unfold slices_Index_string slices_Index_stringb
  refine lp_idx l _ (fun x => s == x) (fun g i hi => ?_) (fun g => ?_) N (by omega)
  · unfold slices_Index_string_0r
    simp only [dlt hi, dge, gAt hi, cond_true, wrS (show i ≤ 1000000000000000000 by omega)]
  · unfold slices_Index_string_0r
    rw [dnlt]; rfl
theorem slicesContains {N : Nat} (hN : lim < N) {l : List Txt} (hl : l.length ≤ lim) (s : Txt) : slices_Contains_string N l s = some (l.contains s) := by
  unfold slices_Contains_string
  rw [ob_eq (slicesIndex hN hl s), idxB_nonneg, List.contains_eq_any_beq]

/-- The same with what a function value has caught. -/
theorem lp_idxC {α γ : Type} (l : List α) (rd : (Int → γ → Option (Int × γ)) → Int → γ → Option (Int × γ)) (p : α → Bool) (c : γ)
    (hstep : ∀ (g : Int → γ → Option (Int × γ)) (i : Nat) (h : i < l.length), rd g (i : Int) c = bif p l[i] then some ((i : Int), c) else g ((i + 1 : Nat) : Int) c)
    (hend : ∀ (g : Int → γ → Option (Int × γ)), rd g (l.length : Int) c = some (-1, c)) (N : Nat) (hN : l.length < N) : lp (fun _ _ => none) rd N 0 c = some (idxB p 0 l, c) := by
  have := lp_walk l (fun (g : Int → γ → Option (Int × γ)) i (d : γ) => g (i : Int) d) (fun _ _ => none) rd (fun i d x => bif p x then .inr (some ((i : Int), d)) else .inl d) (fun d => some (-1, d)) (fun _ d => d = c)
    (fun g i st h hi => ⟨by
      subst hi
      rw [hstep g i h]
      cases p l[i] <;> rfl, fun st' hs => by
      subst hi
      cases hp : p l[i] with
      | true => rw [hp] at hs; cases hs
      | false => rw [hp] at hs; cases hs; rfl⟩) (fun g d hd => by subst hd; exact hend g) N hN c rfl
  refine this.trans ?_
  have : ∀ (l : List α) i, outW (fun d => some (-1, d)) (walkL (fun i (d : γ) x => bif p x then Sum.inr (some ((i : Int), d)) else Sum.inl d) i l c) = some (idxB p i l, c) := by
    intro l
    induction l with
    | nil => intro i; rfl
    | cons x xs ih =>
      intro i
      simp only [walkL, idxB]
      cases p x with
      | false => simpa using ih (i + 1)
      | true => rfl
  exact this l 0
theorem implCommon {N : Nat} (hN : lim < N) {a b : List Txt} (ha : a.length ≤ lim) (hb : b.length ≤ lim) : impl_common N a b = some (a.any fun x => b.contains x) := by
  have hlim := lim_eq
  unfold impl_common slices_ContainsFunc_string__impl_common_c1
  have h : slices_IndexFunc_string__impl_common_c1 N a b = some (idxB (fun x => b.contains x) 0 a, b) := by
    unfold slices_IndexFunc_string__impl_common_c1 slices_IndexFunc_string__impl_common_c1b
    refine lp_idxC a _ (fun x => b.contains x) b (fun g i hi => ?_) (fun g => ?_) N (by omega)
    · unfold slices_IndexFunc_string__impl_common_c1_0r
      simp only [dlt hi, dge, gAt hi, cond_true, wrS (show i ≤ 1000000000000000000 by omega)]
      have h1 : impl_common_c1 N a[i] b = some (b.contains a[i], b) := by
        unfold impl_common_c1
        rw [ob_eq (slicesContains hN hb _)]
      rw [ob_eq h1]
    · unfold slices_IndexFunc_string__impl_common_c1_0r
      rw [dnlt]; rfl
  rw [ob_eq (a := (a.any fun x => b.contains x, b)) (by rw [ob_eq h, idxB_nonneg])]
end Go.MC

/- ClaimWantOk: the document's and the program's tell the same. -/
set_option linter.unusedVariables false
set_option linter.unusedSimpArgs false
namespace Go.MC
open Go.MC.F

theorem wr3 {a b c : Nat} (ha : a ≤ 1048576) (hb : b ≤ 1048576) (hc : c ≤ 1048576) : IntKind.i64.wrap (IntKind.i64.wrap ((a : Int) + (b : Int)) + (c : Int)) = (a : Int) + (b : Int) + (c : Int) := by
  rw [wr (n := (a : Int) + (b : Int)) (by omega) (by omega), wr (by omega) (by omega)]

theorem dpz (n : Nat) : decide ((n : Int) > 0) = !decide (n = 0) := by cases n <;> simp
theorem dpn (n : Nat) : decide ((n : Int) > 0) = decide (n ≠ 0) := by cases n <;> simp
theorem dsum {a b c : Nat} : ((a : Int) + (b : Int) + (c : Int) == 0) = !decide (a + b + c ≠ 0) := by
  by_cases h : a + b + c = 0
  · rw [decide_eq_false (by omega)]
    exact beq_iff_eq.2 (by omega)
  · rw [decide_eq_true h]
    exact beq_eq_false_iff_ne.2 (by omega)
theorem dsum' {a b c : Nat} : decide ((a : Int) + (b : Int) + (c : Int) > 0) = decide (a + b + c ≠ 0) := by
  by_cases h : a + b + c = 0
  · rw [decide_eq_false (by omega), decide_eq_false (by omega)]
  · rw [decide_eq_true (by omega), decide_eq_true h]

def useOk (w : Want) (i : Nat) (u : Use) : Bool :=
  nmOk u.1 && ((i == 0 || Op.bytesLess (w.2.2.2.1.getD (i - 1) dUse).1 u.1) && (inB u.2.1 1 3 && (bif u.2.1 == 3 then u.2.2 == 0 else (w.2.1 == 1) && inB u.2.2 1 1000)))
def usesOk (w : Want) : Bool := !decide ((w.2.2.2.1.length : Int) > 8) && allI (useOk w) 0 w.2.2.2.1
/-- A want is ok. -/
def wantOk (w : Want) : Bool :=
  inB w.1 1 1000000 && (inB w.2.1 1 3 && (usesOk w && (nmsOk w.2.2.2.2.1 12 && (nmsOk w.2.2.2.2.2 12 && (!(w.2.2.2.2.1.any fun x => w.2.2.2.2.2.contains x) &&
    (decide (w.2.2.2.1.length + w.2.2.2.2.1.length + w.2.2.2.2.2.length ≠ 0) && (((w.2.1 == 1) || decide (w.2.2.2.2.1.length = 0)) && (nmsOk w.2.2.1 8 && ((w.2.1 == 1) == decide (w.2.2.1.length ≠ 0))))))))))

theorem l1UsesOk {N : Nat} (hN : lim < N) (w : Want) : spec_l1UsesOk N w = some (usesOk w) := by
  have hlim := lim_eq
  unfold spec_l1UsesOk spec_l1UsesOkb usesOk
  cases hb : decide ((w.2.2.2.1.length : Int) > 8) with
  | true => rfl
  | false =>
    have hl : w.2.2.2.1.length ≤ 8 := by have := of_decide_eq_false hb; omega
    refine (lp_allI w.2.2.2.1 _ (useOk w) (some false) (some true) (fun g i hi => ?_) (fun g => ?_) N (by omega)).trans ?_
    · unfold spec_l1UsesOk_0r useOk
      simp only [dlt hi, dge, gAt hi, cond_true, wrS (show i ≤ 1000000000000000000 by omega), dgt0]
      rw [ob_eq (l1NameOk hN _)]
      cases nmOk w.2.2.2.1[i].1 with
      | false => rfl
      | true =>
        have key : (ob (spec_l1In N w.2.2.2.1[i].2.1 1 3) false fun r => bif !r then some false else bif w.2.2.2.1[i].2.1 == 3 then bif w.2.2.2.1[i].2.2 != 0 then some false else bif w.2.2.2.1[i].2.1 != 3 then bif w.2.1 != 1 then some false else ob (spec_l1In N w.2.2.2.1[i].2.2 1 1000) false fun r => bif !r then some false else g ((i + 1 : Nat) : Int) else g ((i + 1 : Nat) : Int)
            else bif w.2.2.2.1[i].2.1 != 3 then bif w.2.1 != 1 then some false else ob (spec_l1In N w.2.2.2.1[i].2.2 1 1000) false fun r => bif !r then some false else g ((i + 1 : Nat) : Int) else g ((i + 1 : Nat) : Int)) =
            bif (inB w.2.2.2.1[i].2.1 1 3 && (bif w.2.2.2.1[i].2.1 == 3 then w.2.2.2.1[i].2.2 == 0 else (w.2.1 == 1) && inB w.2.2.2.1[i].2.2 1 1000)) then g ((i + 1 : Nat) : Int) else some false := by
          rw [ob_eq (l1In _ _ _)]
          simp only [ob_eq (l1In w.2.2.2.1[i].2.2 1 1000), bne]
          cases inB w.2.2.2.1[i].2.1 1 3 <;> cases (w.2.2.2.1[i].2.1 == 3) <;> cases (w.2.2.2.1[i].2.2 == 0) <;> cases (w.2.1 == 1) <;> cases inB w.2.2.2.1[i].2.2 1 1000 <;> rfl
        cases h0 : i == 0 with
        | true =>
          simp only [Bool.not_true, cond_false, Bool.true_or, Bool.true_and]
          exact key
        | false =>
          have h0' : 0 < i := by simp at h0; omega
          simp only [Bool.not_true, Bool.not_false, cond_true, cond_false, wrP (show i ≤ 1000000000000000000 by omega) h0', dge, dlt (show i - 1 < w.2.2.2.1.length by omega), gAt', Bool.false_or, Bool.true_and]
          cases Op.bytesLess (w.2.2.2.1.getD (i - 1) dUse).1 w.2.2.2.1[i].1 with
          | false => rfl
          | true => exact key
    · unfold spec_l1UsesOk_0r
      rw [dnlt]; rfl
    · cases allI (useOk w) 0 w.2.2.2.1 <;> rfl

theorem specWantOk {N : Nat} (hN : lim < N) {w : Want} (h : smW w) : spec_ClaimWantOk N w = some (wantOk w) := by
  have hlim := lim_eq
  obtain ⟨h1, h2, h3, h4⟩ := h
  have l1 := h1.1
  have l2 := h2.1
  have l3 := h3.1
  have l4 := h4.1
  unfold spec_ClaimWantOk wantOk
  rw [wr3 l2 l3 l4]
  rw [ob_eq (l1In _ _ _)]
  simp only [ob_eq (l1In w.2.1 1 3), ob_eq (l1UsesOk hN w), ob_eq (l1NamesOk hN (show w.2.2.2.2.1.length ≤ lim by omega) 12), ob_eq (l1NamesOk hN (show w.2.2.2.2.2.length ≤ lim by omega) 12), ob_eq (l1Share hN (show w.2.2.2.2.1.length ≤ lim by omega) (show w.2.2.2.2.2.length ≤ lim by omega)), ob_eq (l1NamesOk hN (show w.2.2.1.length ≤ lim by omega) 8), bne]
  rw [dsum]
  rw [dpz w.2.2.2.2.1.length]
  rw [dpn w.2.2.1.length]
  generalize inB w.1 1 1000000 = x0
  generalize inB w.2.1 1 3 = x1
  generalize usesOk w = x2
  generalize nmsOk w.2.2.2.2.1 12 = x3
  generalize nmsOk w.2.2.2.2.2 12 = x4
  generalize (w.2.2.2.2.1.any fun x => w.2.2.2.2.2.contains x) = x5
  generalize decide (w.2.2.2.1.length + w.2.2.2.2.1.length + w.2.2.2.2.2.length ≠ 0) = x6
  generalize (w.2.1 == 1) = x7
  generalize decide (w.2.2.2.2.1.length = 0) = x8
  generalize nmsOk w.2.2.1 8 = x9
  generalize decide (w.2.2.1.length ≠ 0) = x10
  revert x0 x1 x2 x3 x4 x5 x6 x7 x8 x9 x10
  decide +kernel


theorem implWantOk {N : Nat} (hN : lim < N) {w : Want} (h : smW w) : impl_ClaimWantOk N w = some (wantOk w) := by
  have hlim := lim_eq
  obtain ⟨h1, h2, h3, h4⟩ := h
  have l1 := h1.1
  have l2 := h2.1
  have l3 := h3.1
  have l4 := h4.1
  unfold impl_ClaimWantOk impl_ClaimWantOkb
  rw [ob_eq (implIn _ _ _)]
  simp only [ob_eq (implIn w.2.1 1 3), ob_eq (implNames hN (show w.2.2.1.length ≤ lim by omega) 8)]
  have loop : impl_ClaimWantOk_0 N w (w.2.1 == 1) (w.2.2.2.1.length : Int) N 0 = bif allI (useOk w) 0 w.2.2.2.1 then (impl_ClaimWantOk_0r N w (w.2.1 == 1) (w.2.2.2.1.length : Int) (fun _ => none) (w.2.2.2.1.length : Int)) else some false := by
    refine lp_allI w.2.2.2.1 _ (useOk w) (some false) _ (fun g i hi => ?_) (fun g => ?_) N (by omega)
    · unfold impl_ClaimWantOk_0r useOk
      simp only [dlt hi, dge, gAt hi, cond_true, wrS (show i ≤ 1000000000000000000 by omega), dgt0]
      rw [ob_eq (implName hN _)]
      cases nmOk w.2.2.2.1[i].1 with
      | false => rfl
      | true =>
        have key : (ob (impl_in N w.2.2.2.1[i].2.1 1 3) false fun r => bif !r then some false else bif w.2.2.2.1[i].2.1 == 3 then bif w.2.2.2.1[i].2.2 != 0 then some false else g ((i + 1 : Nat) : Int)
            else bif !(w.2.1 == 1) then some false else ob (impl_in N w.2.2.2.1[i].2.2 1 1000) false fun r => bif !r then some false else g ((i + 1 : Nat) : Int)) =
            bif (inB w.2.2.2.1[i].2.1 1 3 && (bif w.2.2.2.1[i].2.1 == 3 then w.2.2.2.1[i].2.2 == 0 else (w.2.1 == 1) && inB w.2.2.2.1[i].2.2 1 1000)) then g ((i + 1 : Nat) : Int) else some false := by
          rw [ob_eq (implIn _ _ _)]
          simp only [ob_eq (implIn w.2.2.2.1[i].2.2 1 1000), bne]
          cases inB w.2.2.2.1[i].2.1 1 3 <;> cases (w.2.2.2.1[i].2.1 == 3) <;> cases (w.2.2.2.1[i].2.2 == 0) <;> cases (w.2.1 == 1) <;> cases inB w.2.2.2.1[i].2.2 1 1000 <;> rfl
        cases h0 : i == 0 with
        | true =>
          simp only [Bool.not_true, cond_false, Bool.true_or, Bool.true_and]
          exact key
        | false =>
          have h0' : 0 < i := by simp at h0; omega
          simp only [Bool.not_true, Bool.not_false, cond_true, cond_false, wrP (show i ≤ 1000000000000000000 by omega) h0', dge, dlt (show i - 1 < w.2.2.2.1.length by omega), gAt', Bool.false_or, Bool.true_and]
          cases Op.bytesLess (w.2.2.2.1.getD (i - 1) dUse).1 w.2.2.2.1[i].1 with
          | false => rfl
          | true => exact key
    · unfold impl_ClaimWantOk_0r
      rw [dnlt]; rfl
  rw [loop]
  unfold impl_ClaimWantOk_0r wantOk usesOk
  rw [dnlt, cond_false, wr3 l2 l3 l4]
  rw [ob_eq (implNames hN (show w.2.2.2.2.1.length ≤ lim by omega) 12)]
  simp only [ob_eq (implNames hN (show w.2.2.2.2.2.length ≤ lim by omega) 12), ob_eq (implCommon hN (show w.2.2.2.2.1.length ≤ lim by omega) (show w.2.2.2.2.2.length ≤ lim by omega))]
  rw [dsum']
  rw [dpz w.2.2.2.2.1.length]
  rw [dpn w.2.2.1.length]
  generalize inB w.1 1 1000000 = x0
  generalize inB w.2.1 1 3 = x1
  generalize nmsOk w.2.2.1 8 = x2
  generalize (w.2.1 == 1) = x3
  generalize decide (w.2.2.1.length ≠ 0) = x4
  generalize decide ((w.2.2.2.1.length : Int) > 8) = x5
  generalize allI (useOk w) 0 w.2.2.2.1 = x6
  generalize nmsOk w.2.2.2.2.1 12 = x7
  generalize nmsOk w.2.2.2.2.2 12 = x8
  generalize (w.2.2.2.2.1.any fun x => w.2.2.2.2.2.contains x) = x9
  generalize decide (w.2.2.2.2.1.length = 0) = x10
  generalize decide (w.2.2.2.1.length + w.2.2.2.2.1.length + w.2.2.2.2.2.length ≠ 0) = x11
  revert x0 x1 x2 x3 x4 x5 x6 x7 x8 x9 x10 x11
  decide +kernel


theorem fit_want {w : Want} (h : Fit tWant w) : fitW w := by
  obtain ⟨_, _, h1, h2, h3, h4⟩ := h
  exact ⟨h1, ⟨h2.1, fun u hu => (h2.2 u hu).1⟩, h3, h4⟩
end Go.MC

/- Sizes, copies and sameness of books. -/
set_option linter.unusedVariables false
set_option linter.unusedSimpArgs false
namespace Go.MC
open Go.MC.F

def smF (f : Foe) : Prop := smT f.1 ∧ smT f.2
def smS (s : Spot) : Prop := smT s.1 ∧ smL s.2.2.2.2
def smP (p : Part) : Prop := smW p.1
def smB (b : Book) : Prop := (b.1.length ≤ 1048576 ∧ ∀ f ∈ b.1, smF f) ∧ (b.2.1.length ≤ 1048576 ∧ ∀ s ∈ b.2.1, smS s) ∧ smL b.2.2.1 ∧ (b.2.2.2.1.length ≤ 1048576 ∧ ∀ p ∈ b.2.2.2.1, smP p)
def fitF (f : Foe) : Prop := f.1.length ≤ lim ∧ f.2.length ≤ lim
def fitS (s : Spot) : Prop := s.1.length ≤ lim ∧ (s.2.2.2.2.length ≤ lim ∧ ∀ x ∈ s.2.2.2.2, x.length ≤ lim)
def fitP (p : Part) : Prop := fitW p.1
def fitB (b : Book) : Prop := (b.1.length ≤ lim ∧ ∀ f ∈ b.1, fitF f) ∧ (b.2.1.length ≤ lim ∧ ∀ s ∈ b.2.1, fitS s) ∧ (b.2.2.1.length ≤ lim ∧ ∀ x ∈ b.2.2.1, x.length ≤ lim) ∧ (b.2.2.2.1.length ≤ lim ∧ ∀ p ∈ b.2.2.2.1, fitP p)
theorem fit_book {b : Book} (h : Fit tBook b) : fitB b := by
  obtain ⟨h1, h2, h3, h4, h5⟩ := h
  refine ⟨⟨h1.1, fun f hf => h1.2 f hf⟩, ⟨h2.1, fun s hs => ?_⟩, h3, h4.1, fun p hp => fit_want (h4.2 p hp).1⟩
  obtain ⟨a, _, _, _, e⟩ := h2.2 s hs
  exact ⟨a, e⟩

/-- A loop that counts down, element by element. -/
theorem sz_loopE {α : Type} (l : List α) (hl : l.length ≤ lim) (el : α → Int → Option Int) (P : α → Prop) (rd : (Int → Int → Option Int) → Int → Int → Option Int)
    (hel : ∀ x ∈ l, ∀ st : Int, 0 ≤ st → st ≤ 1048576 → ∃ r, el x st = some r ∧ r ≤ st ∧ -1 ≤ r ∧ (0 ≤ r → P x))
    (hstep : ∀ (g : Int → Int → Option Int) (i : Nat) (st : Int) (h : i < l.length), rd g st (i : Int) = ob (el l[i] st) (Int.ofNat 0) fun r => bif decide (r < 0) then some (-1) else g r ((i + 1 : Nat) : Int))
    (hend : ∀ (g : Int → Int → Option Int) (st : Int), rd g st (l.length : Int) = some st) (N : Nat) (hN : l.length < N) (left : Int) (h0 : 0 ≤ left) (h1 : left ≤ 1048576) :
    ∃ r, lp (fun _ _ => none) rd N left 0 = some r ∧ r ≤ left ∧ -1 ≤ r ∧ (0 ≤ r → ∀ x ∈ l, P x) := by
  refine sz_loop l hl (fun x st => (el x st).getD 0) P rd (fun x hx st h0 h1 => ?_) (fun g i st h h0 h1 => ?_) hend N hN left h0 h1
  · obtain ⟨r, h2, h3⟩ := hel x hx st h0 h1
    rw [h2]; exact h3
  · obtain ⟨r, h2, h3⟩ := hel _ (List.getElem_mem h) st h0 h1
    rw [hstep g i st h, ob_eq h2, h2]
    by_cases hn : r < 0
    · rw [decide_eq_true hn, if_pos (show (some r).getD 0 < 0 from hn)]; rfl
    · rw [decide_eq_false hn, if_neg (show ¬ (some r).getD 0 < 0 from hn)]; rfl

theorem szClaimFoe {N : Nat} {f : Foe} (hf : fitF f) {left : Int} (h0 : 0 ≤ left) (h1 : left ≤ 1048576) : ∃ r, laws_szClaimFoe N f left = some r ∧ r ≤ left ∧ -1 ≤ r ∧ (0 ≤ r → smF f) := by
  have hlim := lim_eq
  obtain ⟨a, b⟩ := hf
  unfold laws_szClaimFoe
  rw [wr (n := left - (f.1.length : Int)) (by omega) (by omega), wr (n := left - (f.1.length : Int) - (f.2.length : Int)) (by omega) (by omega)]
  by_cases hn : left - (f.1.length : Int) < 0
  · rw [decide_eq_true hn]
    exact ⟨-1, rfl, by omega, by omega, fun h => by omega⟩
  · rw [decide_eq_false hn]
    by_cases hn2 : left - (f.1.length : Int) - (f.2.length : Int) < 0
    · rw [decide_eq_true hn2]
      exact ⟨-1, rfl, by omega, by omega, fun h => by omega⟩
    · rw [decide_eq_false hn2]
      exact ⟨_, rfl, by omega, by omega, fun h => ⟨by unfold smT; omega, by unfold smT; omega⟩⟩
theorem szClaimSpot {N : Nat} (hN : lim < N) {s : Spot} (hs : fitS s) {left : Int} (h0 : 0 ≤ left) (h1 : left ≤ 1048576) : ∃ r, laws_szClaimSpot N s left = some r ∧ r ≤ left ∧ -1 ≤ r ∧ (0 ≤ r → smS s) := by
  have hlim := lim_eq
  obtain ⟨a, b, c⟩ := hs
  unfold laws_szClaimSpot
  rw [wr (n := left - (s.1.length : Int)) (by omega) (by omega)]
  by_cases hn : left - (s.1.length : Int) < 0
  · rw [decide_eq_true hn]
    exact ⟨-1, rfl, by omega, by omega, fun h => by omega⟩
  · rw [decide_eq_false hn]
    obtain ⟨r, h2, h3, h4, h5⟩ := szLast (szStringS hN b c (left := left - (s.1.length : Int)) (by omega) (by omega))
    exact ⟨r, h2, by omega, h4, fun h => ⟨by unfold smT; omega, h5 h⟩⟩
theorem szClaimPart {N : Nat} (hN : lim < N) {p : Part} (hp : fitP p) {left : Int} (h0 : 0 ≤ left) (h1 : left ≤ 1048576) : ∃ r, laws_szClaimPart N p left = some r ∧ r ≤ left ∧ -1 ≤ r ∧ (0 ≤ r → smP p) :=
  szLast (szClaimWant hN hp h0 h1)

theorem szClaimFoeS {N : Nat} (hN : lim < N) {a : List Foe} (ha : a.length ≤ lim) (hx : ∀ x ∈ a, fitF x) {left : Int} (h0 : 0 ≤ left) (h1 : left ≤ 1048576) :
    ∃ r, laws_szClaimFoeS N a left = some r ∧ r ≤ left ∧ -1 ≤ r ∧ (0 ≤ r → a.length ≤ 1048576 ∧ ∀ x ∈ a, smF x) := by
  have hlim := lim_eq
  unfold laws_szClaimFoeS laws_szClaimFoeSb
  rw [wr (n := left - a.length) (by omega) (by omega)]
  by_cases hneg : left - (a.length : Int) < 0
  · rw [decide_eq_true hneg]
    exact ⟨-1, rfl, by omega, by omega, fun h => by omega⟩
  · rw [decide_eq_false hneg]
    obtain ⟨r, h2, h3, h4, h5⟩ := sz_loopE a ha (laws_szClaimFoe N) (fun x => smF x) (laws_szClaimFoeS_0r N a) (fun x hm st h0 h1 => szClaimFoe (hx x hm) h0 h1) (fun g i st h => by
        unfold laws_szClaimFoeS_0r
        simp only [dlt h, dge, gAt h, cond_true, wrS (show i ≤ 1000000000000000000 by omega)]) (fun g st => by
        unfold laws_szClaimFoeS_0r
        rw [dnlt]; rfl) N (by omega) (left - a.length) (by omega) (by omega)
    exact ⟨r, h2, by omega, h4, fun h => ⟨by omega, h5 h⟩⟩

theorem szClaimSpotS {N : Nat} (hN : lim < N) {a : List Spot} (ha : a.length ≤ lim) (hx : ∀ x ∈ a, fitS x) {left : Int} (h0 : 0 ≤ left) (h1 : left ≤ 1048576) :
    ∃ r, laws_szClaimSpotS N a left = some r ∧ r ≤ left ∧ -1 ≤ r ∧ (0 ≤ r → a.length ≤ 1048576 ∧ ∀ x ∈ a, smS x) := by
  have hlim := lim_eq
  unfold laws_szClaimSpotS laws_szClaimSpotSb
  rw [wr (n := left - a.length) (by omega) (by omega)]
  by_cases hneg : left - (a.length : Int) < 0
  · rw [decide_eq_true hneg]
    exact ⟨-1, rfl, by omega, by omega, fun h => by omega⟩
  · rw [decide_eq_false hneg]
    obtain ⟨r, h2, h3, h4, h5⟩ := sz_loopE a ha (laws_szClaimSpot N) (fun x => smS x) (laws_szClaimSpotS_0r N a) (fun x hm st h0 h1 => szClaimSpot hN (hx x hm) h0 h1) (fun g i st h => by
        unfold laws_szClaimSpotS_0r
        simp only [dlt h, dge, gAt h, cond_true, wrS (show i ≤ 1000000000000000000 by omega)]) (fun g st => by
        unfold laws_szClaimSpotS_0r
        rw [dnlt]; rfl) N (by omega) (left - a.length) (by omega) (by omega)
    exact ⟨r, h2, by omega, h4, fun h => ⟨by omega, h5 h⟩⟩

theorem szClaimPartS {N : Nat} (hN : lim < N) {a : List Part} (ha : a.length ≤ lim) (hx : ∀ x ∈ a, fitP x) {left : Int} (h0 : 0 ≤ left) (h1 : left ≤ 1048576) :
    ∃ r, laws_szClaimPartS N a left = some r ∧ r ≤ left ∧ -1 ≤ r ∧ (0 ≤ r → a.length ≤ 1048576 ∧ ∀ x ∈ a, smP x) := by
  have hlim := lim_eq
  unfold laws_szClaimPartS laws_szClaimPartSb
  rw [wr (n := left - a.length) (by omega) (by omega)]
  by_cases hneg : left - (a.length : Int) < 0
  · rw [decide_eq_true hneg]
    exact ⟨-1, rfl, by omega, by omega, fun h => by omega⟩
  · rw [decide_eq_false hneg]
    obtain ⟨r, h2, h3, h4, h5⟩ := sz_loopE a ha (laws_szClaimPart N) (fun x => smP x) (laws_szClaimPartS_0r N a) (fun x hm st h0 h1 => szClaimPart hN (hx x hm) h0 h1) (fun g i st h => by
        unfold laws_szClaimPartS_0r
        simp only [dlt h, dge, gAt h, cond_true, wrS (show i ≤ 1000000000000000000 by omega)]) (fun g st => by
        unfold laws_szClaimPartS_0r
        rw [dnlt]; rfl) N (by omega) (left - a.length) (by omega) (by omega)
    exact ⟨r, h2, by omega, h4, fun h => ⟨by omega, h5 h⟩⟩

theorem szClaimBook {N : Nat} (hN : lim < N) {b : Book} (hb : fitB b) {left : Int} (h0 : 0 ≤ left) (h1 : left ≤ 1048576) : ∃ r, laws_szClaimBook N b left = some r ∧ r ≤ left ∧ -1 ≤ r ∧ (0 ≤ r → smB b) := by
  obtain ⟨⟨a1, a2⟩, ⟨b1, b2⟩, ⟨c1, c2⟩, ⟨d1, d2⟩⟩ := hb
  exact szNext h0 h1 (szClaimFoeS hN a1 a2 h0 h1) fun r h0 h1 => szNext h0 h1 (szClaimSpotS hN b1 b2 h0 h1) fun r h0 h1 => szNext h0 h1 (szStringS hN c1 c2 h0 h1) fun r h0 h1 => szLast (szClaimPartS hN d1 d2 h0 h1)

theorem toClaimSpot {N : Nat} (hN : lim < N) {s : Spot} (h : smS s) : laws_toClaimSpot N s = some s := by
  unfold laws_toClaimSpot
  rw [ob_eq (toStringS hN h.2.1)]
theorem toClaimPart {N : Nat} (hN : lim < N) {p : Part} (h : smP p) : laws_toClaimPart N p = some p := by
  unfold laws_toClaimPart
  rw [ob_eq (toClaimWant hN h)]
theorem toClaimFoe {N : Nat} (hN : lim < N) {f : Foe} (h : smF f) : laws_toClaimFoe N f = some f := rfl
theorem eqClaimFoe {N : Nat} (hN : lim < N) {f : Foe} (h : smF f) : laws_eqClaimFoe N f f = some true := by
  unfold laws_eqClaimFoe
  simp
theorem eqClaimSpot {N : Nat} (hN : lim < N) {s : Spot} (h : smS s) : laws_eqClaimSpot N s s = some true := by
  unfold laws_eqClaimSpot
  simp only [bne_self_eq_false, beq_self_eq_true, Bool.not_true, cond_false]
  rw [ob_eq (eqStringS hN h.2.1)]; rfl
theorem eqClaimPart {N : Nat} (hN : lim < N) {p : Part} (h : smP p) : laws_eqClaimPart N p p = some true := by
  unfold laws_eqClaimPart
  rw [ob_eq (eqClaimWant hN h)]
  simp

theorem toClaimFoeS {N : Nat} (hN : lim < N) {a : List Foe} (h : a.length ≤ 1048576) (hx : ∀ x ∈ a, smF x) : laws_toClaimFoeS N a = some a := by
  have hlim := lim_eq
  unfold laws_toClaimFoeS laws_toClaimFoeSb
  have h1 : (decide (((a.length : Nat) : Int).toNat * 32 ≤ lim) && (Nat.ble 1 32 && true)) = true := by
    rw [decide_eq_true (by rw [Int.toNat_natCast]; omega)]; rfl
  simp only [h1, cond_true, decide_true]
  refine (lp_set (l := a) (fun x => x) (fun f i out hi ho => ?_) (fun f out => ?_) (by omega) (by simp)).trans (by simp)
  · unfold laws_toClaimFoeS_0r
    simp only [dlt hi, dge, gAt hi, cond_true, wrS (show i ≤ 1000000000000000000 by omega), dlt (show i < out.length by omega)]
    rw [ob_eq (toClaimFoe hN (hx _ (List.getElem_mem hi)))]
    rfl
  · unfold laws_toClaimFoeS_0r
    rw [dnlt]; rfl
theorem eqClaimFoeS {N : Nat} (hN : lim < N) {a : List Foe} (h : a.length ≤ 1048576) (hx : ∀ x ∈ a, smF x) : laws_eqClaimFoeS N a a = some true := by
  have hlim := lim_eq
  unfold laws_eqClaimFoeS laws_eqClaimFoeSb
  simp only [bne_self_eq_false, cond_false]
  refine (lp_allI a _ (fun _ _ => true) (some false) (some true) (fun g i hi => ?_) (fun g => ?_) N (by omega)).trans ?_
  · unfold laws_eqClaimFoeS_0r
    simp only [dlt hi, dge, gAt hi, cond_true, wrS (show i ≤ 1000000000000000000 by omega)]
    rw [ob_eq (eqClaimFoe hN (hx _ (List.getElem_mem hi)))]; rfl
  · unfold laws_eqClaimFoeS_0r
    rw [dnlt]; rfl
  · rw [show allI (fun _ (_ : Foe) => true) 0 a = true from allI_iff.2 fun _ _ _ => rfl]; rfl

theorem toClaimSpotS {N : Nat} (hN : lim < N) {a : List Spot} (h : a.length ≤ 1048576) (hx : ∀ x ∈ a, smS x) : laws_toClaimSpotS N a = some a := by
  have hlim := lim_eq
  unfold laws_toClaimSpotS laws_toClaimSpotSb
  have h1 : (decide (((a.length : Nat) : Int).toNat * 64 ≤ lim) && (Nat.ble 1 64 && true)) = true := by
    rw [decide_eq_true (by rw [Int.toNat_natCast]; omega)]; rfl
  simp only [h1, cond_true, decide_true]
  refine (lp_set (l := a) (fun x => x) (fun f i out hi ho => ?_) (fun f out => ?_) (by omega) (by simp)).trans (by simp)
  · unfold laws_toClaimSpotS_0r
    simp only [dlt hi, dge, gAt hi, cond_true, wrS (show i ≤ 1000000000000000000 by omega), dlt (show i < out.length by omega)]
    rw [ob_eq (toClaimSpot hN (hx _ (List.getElem_mem hi)))]
    rfl
  · unfold laws_toClaimSpotS_0r
    rw [dnlt]; rfl
theorem eqClaimSpotS {N : Nat} (hN : lim < N) {a : List Spot} (h : a.length ≤ 1048576) (hx : ∀ x ∈ a, smS x) : laws_eqClaimSpotS N a a = some true := by
  have hlim := lim_eq
  unfold laws_eqClaimSpotS laws_eqClaimSpotSb
  simp only [bne_self_eq_false, cond_false]
  refine (lp_allI a _ (fun _ _ => true) (some false) (some true) (fun g i hi => ?_) (fun g => ?_) N (by omega)).trans ?_
  · unfold laws_eqClaimSpotS_0r
    simp only [dlt hi, dge, gAt hi, cond_true, wrS (show i ≤ 1000000000000000000 by omega)]
    rw [ob_eq (eqClaimSpot hN (hx _ (List.getElem_mem hi)))]; rfl
  · unfold laws_eqClaimSpotS_0r
    rw [dnlt]; rfl
  · rw [show allI (fun _ (_ : Spot) => true) 0 a = true from allI_iff.2 fun _ _ _ => rfl]; rfl

theorem toClaimPartS {N : Nat} (hN : lim < N) {a : List Part} (h : a.length ≤ 1048576) (hx : ∀ x ∈ a, smP x) : laws_toClaimPartS N a = some a := by
  have hlim := lim_eq
  unfold laws_toClaimPartS laws_toClaimPartSb
  have h1 : (decide (((a.length : Nat) : Int).toNat * 120 ≤ lim) && (Nat.ble 1 120 && true)) = true := by
    rw [decide_eq_true (by rw [Int.toNat_natCast]; omega)]; rfl
  simp only [h1, cond_true, decide_true]
  refine (lp_set (l := a) (fun x => x) (fun f i out hi ho => ?_) (fun f out => ?_) (by omega) (by simp)).trans (by simp)
  · unfold laws_toClaimPartS_0r
    simp only [dlt hi, dge, gAt hi, cond_true, wrS (show i ≤ 1000000000000000000 by omega), dlt (show i < out.length by omega)]
    rw [ob_eq (toClaimPart hN (hx _ (List.getElem_mem hi)))]
    rfl
  · unfold laws_toClaimPartS_0r
    rw [dnlt]; rfl
theorem eqClaimPartS {N : Nat} (hN : lim < N) {a : List Part} (h : a.length ≤ 1048576) (hx : ∀ x ∈ a, smP x) : laws_eqClaimPartS N a a = some true := by
  have hlim := lim_eq
  unfold laws_eqClaimPartS laws_eqClaimPartSb
  simp only [bne_self_eq_false, cond_false]
  refine (lp_allI a _ (fun _ _ => true) (some false) (some true) (fun g i hi => ?_) (fun g => ?_) N (by omega)).trans ?_
  · unfold laws_eqClaimPartS_0r
    simp only [dlt hi, dge, gAt hi, cond_true, wrS (show i ≤ 1000000000000000000 by omega)]
    rw [ob_eq (eqClaimPart hN (hx _ (List.getElem_mem hi)))]; rfl
  · unfold laws_eqClaimPartS_0r
    rw [dnlt]; rfl
  · rw [show allI (fun _ (_ : Part) => true) 0 a = true from allI_iff.2 fun _ _ _ => rfl]; rfl

theorem toClaimBook {N : Nat} (hN : lim < N) {b : Book} (h : smB b) : laws_toClaimBook N b = some b := by
  obtain ⟨h1, h2, h3, h4⟩ := h
  unfold laws_toClaimBook
  rw [ob_eq (toClaimFoeS hN h1.1 h1.2), ob_eq (toClaimSpotS hN h2.1 h2.2), ob_eq (toStringS hN h3.1), ob_eq (toClaimPartS hN h4.1 h4.2)]
theorem eqClaimBook {N : Nat} (hN : lim < N) {b : Book} (h : smB b) : laws_eqClaimBook N b b = some true := by
  obtain ⟨h1, h2, h3, h4⟩ := h
  unfold laws_eqClaimBook
  rw [ob_eq (eqClaimFoeS hN h1.1 h1.2)]
  simp only [Bool.not_true, cond_false]
  rw [ob_eq (eqClaimSpotS hN h2.1 h2.2)]
  simp only [Bool.not_true, cond_false]
  rw [ob_eq (eqStringS hN h3.1)]
  simp only [Bool.not_true, cond_false]
  rw [ob_eq (eqClaimPartS hN h4.1 h4.2)]
  simp only [Bool.not_true, cond_false, bne_self_eq_false]
end Go.MC

/- ClaimBookOk: the document's and the program's tell the same. -/
set_option linter.unusedVariables false
set_option linter.unusedSimpArgs false
namespace Go.MC
open Go.MC.F

theorem less_irrefl : ∀ l : Txt, Op.bytesLess l l = false
  | [] => rfl
  | a :: x => by
    have : ¬ a < a := UInt8.lt_irrefl a
    simp [Op.bytesLess, this, less_irrefl x]

theorem not_any {α : Type} (l : List α) (p : α → Bool) : l.all (fun x => !p x) = !l.any p := by rw [List.not_any_eq_all_not]
theorem not_all {α : Type} (l : List α) (p : α → Bool) : l.any (fun x => !p x) = !l.all p := by rw [List.not_all_eq_any_not]

/-! Foes -/
def isFoe (b : Book) (x y : Txt) : Bool := b.1.any fun f => (f.1 == x && f.2 == y) || (f.1 == y && f.2 == x)
def clash (b : Book) (x y : List Txt) : Bool := b.1.any fun f => (x.contains f.1 && y.contains f.2) || (x.contains f.2 && y.contains f.1)
theorem clash_eq (b : Book) (x y : List Txt) : clash b x y = x.any fun u => y.any fun v => isFoe b u v := by
  rw [Bool.eq_iff_iff]
  simp only [clash, isFoe, List.any_eq_true, Bool.or_eq_true, Bool.and_eq_true, List.contains_iff_mem, beq_iff_eq]
  constructor
  · rintro ⟨f, hf, ⟨h1, h2⟩ | ⟨h1, h2⟩⟩
    · exact ⟨f.1, h1, f.2, h2, f, hf, .inl ⟨rfl, rfl⟩⟩
    · exact ⟨f.2, h1, f.1, h2, f, hf, .inr ⟨rfl, rfl⟩⟩
  · rintro ⟨u, hu, v, hv, f, hf, ⟨rfl, rfl⟩ | ⟨rfl, rfl⟩⟩
    · exact ⟨f, hf, .inl ⟨hu, hv⟩⟩
    · exact ⟨f, hf, .inr ⟨hu, hv⟩⟩

theorem l2Foes {N : Nat} (hN : lim < N) {b : Book} (hb : b.1.length ≤ 1048576) (x y : Txt) : spec_l2Foes N b x y = some (isFoe b x y) := by
  have hlim := lim_eq
  unfold spec_l2Foes spec_l2Foesb
  refine (lp_allI b.1 _ (fun _ f => !((f.1 == x && f.2 == y) || (f.1 == y && f.2 == x))) (some true) (some false) (fun g i hi => ?_) (fun g => ?_) N (by omega)).trans ?_
  · unfold spec_l2Foes_0r
    simp only [dlt hi, dge, gAt hi, cond_true, wrS (show i ≤ 1000000000000000000 by omega)]
    generalize (b.1[i].1 == x) = a1
    generalize (b.1[i].2 == y) = a2
    generalize (b.1[i].1 == y) = a3
    generalize (b.1[i].2 == x) = a4
    cases a1 <;> cases a2 <;> cases a3 <;> cases a4 <;> rfl
  · unfold spec_l2Foes_0r
    rw [dnlt]; rfl
  · rw [allI_all, not_any]
    unfold isFoe
    cases b.1.any fun f => (f.1 == x && f.2 == y) || (f.1 == y && f.2 == x) <;> rfl
theorem l2Clash {N : Nat} (hN : lim < N) {b : Book} (hb : b.1.length ≤ 1048576) (x : Txt) {may : List Txt} (hm : may.length ≤ 1048576) : spec_l2Clash N b x may = some (may.any fun v => isFoe b x v) := by
  have hlim := lim_eq
  unfold spec_l2Clash spec_l2Clashb
  refine (lp_allI may _ (fun _ v => !(isFoe b x v)) (some true) (some false) (fun g i hi => ?_) (fun g => ?_) N (by omega)).trans ?_
  · unfold spec_l2Clash_0r
    simp only [dlt hi, dge, gAt hi, cond_true, wrS (show i ≤ 1000000000000000000 by omega)]
    rw [ob_eq (l2Foes hN hb _ _)]
    cases isFoe b x may[i] <;> rfl
  · unfold spec_l2Clash_0r
    rw [dnlt]; rfl
  · rw [allI_all, not_any]
    cases may.any fun v => isFoe b x v <;> rfl
theorem implFoes {N : Nat} (hN : lim < N) {b : Book} (hb : b.1.length ≤ 1048576) {x y : List Txt} (hx : x.length ≤ 1048576) (hy : y.length ≤ 1048576) : impl_ClaimBook_foes N b x y = some (clash b x y) := by
  have hlim := lim_eq
  unfold impl_ClaimBook_foes impl_ClaimBook_foesb
  refine (lp_allI b.1 _ (fun _ f => !((x.contains f.1 && y.contains f.2) || (x.contains f.2 && y.contains f.1))) (some true) (some false) (fun g i hi => ?_) (fun g => ?_) N (by omega)).trans ?_
  · unfold impl_ClaimBook_foes_0r
    simp only [dlt hi, dge, gAt hi, cond_true, wrS (show i ≤ 1000000000000000000 by omega)]
    simp only [ob_eq (slicesContains hN (show x.length ≤ lim by omega) _), ob_eq (slicesContains hN (show y.length ≤ lim by omega) _)]
    generalize x.contains b.1[i].1 = a1
    generalize y.contains b.1[i].2 = a2
    generalize x.contains b.1[i].2 = a3
    generalize y.contains b.1[i].1 = a4
    cases a1 <;> cases a2 <;> cases a3 <;> cases a4 <;> rfl
  · unfold impl_ClaimBook_foes_0r
    rw [dnlt]; rfl
  · rw [allI_all, not_any]
    unfold clash
    cases b.1.any fun f => (x.contains f.1 && y.contains f.2) || (x.contains f.2 && y.contains f.1) <;> rfl

def ahead (f g : Foe) : Bool := Op.bytesLess f.1 g.1 || (f.1 == g.1 && Op.bytesLess f.2 g.2)
def foeOk (b : Book) (i : Nat) (f : Foe) : Bool := nmOk f.1 && (nmOk f.2 && (Op.bytesLess f.1 f.2 && (i == 0 || ahead (b.1.getD (i - 1) dFoe) f)))
def foesOk (b : Book) : Bool := !decide ((b.1.length : Int) > 12) && allI (foeOk b) 0 b.1
theorem implAhead {N : Nat} (f g : Foe) : impl_ClaimFoe_ahead N f g = some (ahead f g) := by
  unfold impl_ClaimFoe_ahead ahead
  cases Op.bytesLess f.1 g.1 <;> cases (f.1 == g.1) <;> rfl
theorem l2FoesOk {N : Nat} (hN : lim < N) (b : Book) : spec_l2FoesOk N b = some (foesOk b) := by
  have hlim := lim_eq
  unfold spec_l2FoesOk spec_l2FoesOkb foesOk
  cases hb : decide ((b.1.length : Int) > 12) with
  | true => rfl
  | false =>
    have hl : b.1.length ≤ 12 := by have := of_decide_eq_false hb; omega
    refine (lp_allI b.1 _ (foeOk b) (some false) (some true) (fun g i hi => ?_) (fun g => ?_) N (by omega)).trans ?_
    · unfold spec_l2FoesOk_0r foeOk
      simp only [dlt hi, dge, gAt hi, cond_true, wrS (show i ≤ 1000000000000000000 by omega), dgt0]
      rw [ob_eq (l1NameOk hN _)]
      simp only [ob_eq (l1NameOk hN b.1[i].2)]
      cases nmOk b.1[i].1 with
      | false => rfl
      | true =>
        cases nmOk b.1[i].2 with
        | false => rfl
        | true =>
          cases Op.bytesLess b.1[i].1 b.1[i].2 with
          | false => rfl
          | true =>
            cases h0 : i == 0 with
            | true => rfl
            | false =>
              have h0' : 0 < i := by simp at h0; omega
              simp only [Bool.not_true, Bool.not_false, cond_true, cond_false, wrP (show i ≤ 1000000000000000000 by omega) h0', dge, dlt (show i - 1 < b.1.length by omega), gAt', Bool.false_or, Bool.true_and, ahead]
              cases he : (b.1.getD (i - 1) dFoe).1 == b.1[i].1 with
              | false => cases Op.bytesLess (b.1.getD (i - 1) dFoe).1 b.1[i].1 <;> rfl
              | true =>
                rw [eq_of_beq he, less_irrefl]
                cases Op.bytesLess (b.1.getD (i - 1) dFoe).2 b.1[i].2 <;> rfl
    · unfold spec_l2FoesOk_0r
      rw [dnlt]; rfl
    · cases allI (foeOk b) 0 b.1 <;> rfl

/-! Places -/
/-- The place of a spot, -1 if it is not there. -/
def atB (b : Book) (n : Txt) : Int := idxB (fun s : Spot => s.1 == n) 0 b.2.1
theorem l2Spot {N : Nat} (hN : lim < N) {b : Book} (hb : b.2.1.length ≤ 1048576) (n : Txt) : spec_l2Spot N b n = some (atB b n) := by
  have hlim := lim_eq
  unfold spec_l2Spot spec_l2Spotb atB
  refine lp_idx b.2.1 _ (fun s : Spot => s.1 == n) (fun g i hi => ?_) (fun g => ?_) N (by omega)
  · unfold spec_l2Spot_0r
    simp only [dlt hi, dge, gAt hi, cond_true, wrS (show i ≤ 1000000000000000000 by omega)]
  · unfold spec_l2Spot_0r
    rw [dnlt]; rfl
theorem implAt {N : Nat} (hN : lim < N) {b : Book} (hb : b.2.1.length ≤ 1048576) (n : Txt) : impl_ClaimBook_at N b n = some (atB b n) := by
  have hlim := lim_eq
  unfold impl_ClaimBook_at atB
  have h : slices_IndexFunc_ClaimSpot__impl_ClaimBook_at_c1 N b.2.1 n = some (idxB (fun s : Spot => s.1 == n) 0 b.2.1, n) := by
    unfold slices_IndexFunc_ClaimSpot__impl_ClaimBook_at_c1 slices_IndexFunc_ClaimSpot__impl_ClaimBook_at_c1b
    refine lp_idxC b.2.1 _ (fun s : Spot => s.1 == n) n (fun g i hi => ?_) (fun g => ?_) N (by omega)
    · unfold slices_IndexFunc_ClaimSpot__impl_ClaimBook_at_c1_0r
      simp only [dlt hi, dge, gAt hi, cond_true, wrS (show i ≤ 1000000000000000000 by omega)]
      rw [ob_eq (show impl_ClaimBook_at_c1 N b.2.1[i] n = some (b.2.1[i].1 == n, n) from rfl)]
    · unfold slices_IndexFunc_ClaimSpot__impl_ClaimBook_at_c1_0r
      rw [dnlt]; rfl
  rw [ob_eq h]
theorem idxB_lt {α : Type} (p : α → Bool) : ∀ (l : List α) (i : Nat), 0 ≤ idxB p i l → idxB p i l < i + l.length
  | [], _, h => by simp [idxB] at h
  | x :: xs, i, h => by
    simp only [idxB] at h ⊢
    by_cases hp : p x = true
    · simp only [hp, cond_true, List.length_cons] at h ⊢; omega
    · have hp : p x = false := by simpa using hp
      simp only [hp, cond_false, List.length_cons] at h ⊢
      have := idxB_lt p xs (i + 1) h
      omega

theorem l1All {N : Nat} (hN : lim < N) {a b : List Txt} (ha : a.length ≤ 1048576) (hb : b.length ≤ 1048576) : spec_l1All N a b = some (a.all fun x => b.contains x) := by
  have hlim := lim_eq
  unfold spec_l1All spec_l1Allb
  refine (lp_allI a _ (fun _ x => b.contains x) (some false) (some true) (fun g i hi => ?_) (fun g => ?_) N (by omega)).trans ?_
  · unfold spec_l1All_0r
    simp only [dlt hi, dge, gAt hi, cond_true, wrS (show i ≤ 1000000000000000000 by omega)]
    rw [ob_eq (l1Has hN (show b.length ≤ lim by omega) _)]
    cases b.contains a[i] <;> rfl
  · unfold spec_l1All_0r
    rw [dnlt]; rfl
  · rw [allI_all]
    cases a.all fun x => b.contains x <;> rfl
theorem implWithin {N : Nat} (hN : lim < N) {a b : List Txt} (ha : a.length ≤ 1048576) (hb : b.length ≤ 1048576) : impl_within N a b = some (a.all fun x => b.contains x) := by
  have hlim := lim_eq
  unfold impl_within slices_ContainsFunc_string__impl_within_c1
  have h : slices_IndexFunc_string__impl_within_c1 N a b = some (idxB (fun x => !b.contains x) 0 a, b) := by
    unfold slices_IndexFunc_string__impl_within_c1 slices_IndexFunc_string__impl_within_c1b
    refine lp_idxC a _ (fun x => !b.contains x) b (fun g i hi => ?_) (fun g => ?_) N (by omega)
    · unfold slices_IndexFunc_string__impl_within_c1_0r
      simp only [dlt hi, dge, gAt hi, cond_true, wrS (show i ≤ 1000000000000000000 by omega)]
      have h1 : impl_within_c1 N a[i] b = some (!b.contains a[i], b) := by
        unfold impl_within_c1
        rw [ob_eq (slicesContains hN (show b.length ≤ lim by omega) _)]
      rw [ob_eq h1]
    · unfold slices_IndexFunc_string__impl_within_c1_0r
      rw [dnlt]; rfl
  rw [ob_eq (a := (!(a.all fun x => b.contains x), b)) (by rw [ob_eq h, idxB_nonneg, not_all]), Bool.not_not]

def knowsB (b : Book) (w : Want) : Bool := (w.2.2.2.1.all fun u => !decide (atB b u.1 < 0)) && ((w.2.2.2.2.1.all fun x => b.2.2.1.contains x) && (w.2.2.2.2.2.all fun x => b.2.2.1.contains x))
theorem l2Knows {N : Nat} (hN : lim < N) {b : Book} {w : Want} (hb : smB b) (hw : smW w) : spec_l2Knows N b w = some (knowsB b w) := by
  have hlim := lim_eq
  have h1 := hw.2.1.1
  have h2 : w.2.2.2.2.1.length ≤ 1048576 := hw.2.2.1.1
  have h3 : w.2.2.2.2.2.length ≤ 1048576 := hw.2.2.2.1
  have h4 : b.2.2.1.length ≤ 1048576 := hb.2.2.1.1
  have h5 := hb.2.1.1
  unfold spec_l2Knows spec_l2Knowsb knowsB
  have k4 : spec_l2Knows_4 N b w N 0 = some (w.2.2.2.2.2.all fun x => b.2.2.1.contains x) := by
    refine (lp_allI w.2.2.2.2.2 _ (fun _ x => b.2.2.1.contains x) (some false) (some true) (fun g i hi => ?_) (fun g => ?_) N (by omega)).trans ?_
    · unfold spec_l2Knows_4r
      simp only [dlt hi, dge, gAt hi, cond_true, wrS (show i ≤ 1000000000000000000 by omega)]
      rw [ob_eq (l1Has hN (show b.2.2.1.length ≤ lim by omega) _)]
      cases b.2.2.1.contains w.2.2.2.2.2[i] <;> rfl
    · unfold spec_l2Knows_4r
      rw [dnlt]; rfl
    · rw [allI_all]
      cases w.2.2.2.2.2.all fun x => b.2.2.1.contains x <;> rfl
  have k2 : spec_l2Knows_2 N b w N 0 = some ((w.2.2.2.2.1.all fun x => b.2.2.1.contains x) && (w.2.2.2.2.2.all fun x => b.2.2.1.contains x)) := by
    refine (lp_allI w.2.2.2.2.1 _ (fun _ x => b.2.2.1.contains x) (some false) (spec_l2Knows_4 N b w N 0) (fun g i hi => ?_) (fun g => ?_) N (by omega)).trans ?_
    · unfold spec_l2Knows_2r
      simp only [dlt hi, dge, gAt hi, cond_true, wrS (show i ≤ 1000000000000000000 by omega)]
      rw [ob_eq (l1Has hN (show b.2.2.1.length ≤ lim by omega) _)]
      cases b.2.2.1.contains w.2.2.2.2.1[i] <;> rfl
    · unfold spec_l2Knows_2r
      rw [dnlt]; rfl
    · rw [allI_all, k4]
      cases w.2.2.2.2.1.all fun x => b.2.2.1.contains x <;> rfl
  refine (lp_allI w.2.2.2.1 _ (fun _ u => !decide (atB b u.1 < 0)) (some false) (spec_l2Knows_2 N b w N 0) (fun g i hi => ?_) (fun g => ?_) N (by omega)).trans ?_
  · unfold spec_l2Knows_0r
    simp only [dlt hi, dge, gAt hi, cond_true, wrS (show i ≤ 1000000000000000000 by omega)]
    rw [ob_eq (l2Spot hN h5 _)]
    cases decide (atB b w.2.2.2.1[i].1 < 0) <;> rfl
  · unfold spec_l2Knows_0r
    rw [dnlt]; rfl
  · rw [allI_all, k2]
    cases w.2.2.2.1.all fun u => !decide (atB b u.1 < 0) <;> rfl
theorem implKnows {N : Nat} (hN : lim < N) {b : Book} {w : Want} (hb : smB b) (hw : smW w) : impl_ClaimBook_knows N b w = some (knowsB b w) := by
  have hlim := lim_eq
  have h1 := hw.2.1.1
  have h2 : w.2.2.2.2.1.length ≤ 1048576 := hw.2.2.1.1
  have h3 : w.2.2.2.2.2.length ≤ 1048576 := hw.2.2.2.1
  have h4 : b.2.2.1.length ≤ 1048576 := hb.2.2.1.1
  have h5 := hb.2.1.1
  unfold impl_ClaimBook_knows impl_ClaimBook_knowsb knowsB
  refine (lp_allI w.2.2.2.1 _ (fun _ u => !decide (atB b u.1 < 0)) (some false) (some ((w.2.2.2.2.1.all fun x => b.2.2.1.contains x) && (w.2.2.2.2.2.all fun x => b.2.2.1.contains x))) (fun g i hi => ?_) (fun g => ?_) N (by omega)).trans ?_
  · unfold impl_ClaimBook_knows_0r
    simp only [dlt hi, dge, gAt hi, cond_true, wrS (show i ≤ 1000000000000000000 by omega)]
    rw [ob_eq (implAt hN h5 _)]
    cases decide (atB b w.2.2.2.1[i].1 < 0) <;> rfl
  · unfold impl_ClaimBook_knows_0r
    rw [dnlt, cond_false, ob_eq (implWithin hN h2 h4)]
    simp only [ob_eq (implWithin hN h3 h4)]
    cases w.2.2.2.2.1.all fun x => b.2.2.1.contains x <;> rfl
  · rw [allI_all]
    cases w.2.2.2.1.all fun u => !decide (atB b u.1 < 0) <;> rfl

/-! Parts -/
/-- What was granted of a place is in its spot. -/
def useIn (s : Spot) (w : Want) (u : Use) : Bool :=
  !((w.2.1 == 2) && decide (s.2.2.2.1 > 0)) && (!((w.2.1 == 1) && (!(u.2.1 == 2) && !(s.2.2.2.2.all fun x => w.2.2.1.contains x))) && (!((w.2.1 == 1) && (!(u.2.1 == 1) && !(w.2.2.1.all fun x => s.2.2.2.2.contains x))) && decide (IntKind.i64.wrap (s.2.2.1 + u.2.2) ≤ s.2.2.2.1)))
theorem l2UseOk {N : Nat} (hN : lim < N) {s : Spot} {w : Want} (hs : smS s) (hw : smW w) (u : Use) : spec_l2UseOk N s w u = some (useIn s w u) := by
  unfold spec_l2UseOk useIn
  simp only [ob_eq (l1All hN hs.2.1 hw.1.1), ob_eq (l1All hN hw.1.1 hs.2.1), bne]
  generalize (w.2.1 == 2) = x0
  generalize decide (s.2.2.2.1 > 0) = x1
  generalize (w.2.1 == 1) = x2
  generalize (u.2.1 == 2) = x3
  generalize (u.2.1 == 1) = x4
  generalize (s.2.2.2.2.all fun x => w.2.2.1.contains x) = x5
  generalize (w.2.2.1.all fun x => s.2.2.2.2.contains x) = x6
  generalize decide (IntKind.i64.wrap (s.2.2.1 + u.2.2) ≤ s.2.2.2.1) = x7
  revert x0 x1 x2 x3 x4 x5 x6 x7
  decide +kernel

def spotAt (b : Book) (n : Txt) : Spot := b.2.1.getD (atB b n).toNat dSpot
def partOk (b : Book) (p : Part) : Bool := !decide (p.1.1 > b.2.2.2.2) && (wantOk p.1 && (knowsB b p.1 && p.1.2.2.2.1.all fun u => useIn (spotAt b u.1) p.1 u))
theorem at_of_knows {b : Book} {w : Want} (h : knowsB b w = true) {i : Nat} (hi : i < w.2.2.2.1.length) : 0 ≤ atB b w.2.2.2.1[i].1 ∧ atB b w.2.2.2.1[i].1 < b.2.1.length := by
  simp only [knowsB, Bool.and_eq_true] at h
  have h1 := List.all_eq_true.1 h.1 _ (List.getElem_mem hi)
  have h2 : 0 ≤ atB b w.2.2.2.1[i].1 := by
    have : ¬ atB b w.2.2.2.1[i].1 < 0 := by simpa using h1
    omega
  refine ⟨h2, ?_⟩
  have := idxB_lt (fun s : Spot => s.1 == w.2.2.2.1[i].1) b.2.1 0 h2
  unfold atB
  omega
theorem getD_mem {α : Type} {l : List α} {i : Nat} (h : i < l.length) (d : α) : l.getD i d ∈ l := by
  rw [List.getD_eq_getElem?_getD, List.getElem?_eq_getElem h]
  exact List.getElem_mem h
theorem spotAt_mem {b : Book} {n : Txt} (h : 0 ≤ atB b n) (h2 : atB b n < b.2.1.length) : spotAt b n ∈ b.2.1 := getD_mem (by omega) _

theorem l2PartOk {N : Nat} (hN : lim < N) {b : Book} {p : Part} (hb : smB b) (hp : smP p) : spec_l2PartOk N b p = some (partOk b p) := by
  have hlim := lim_eq
  have h1 := hp.2.1.1
  unfold spec_l2PartOk spec_l2PartOkb partOk
  rw [ob_eq (specWantOk hN hp)]
  simp only [ob_eq (l2Knows hN hb hp)]
  cases wantOk p.1 with
  | false => cases decide (p.1.1 > b.2.2.2.2) <;> rfl
  | true =>
    cases decide (p.1.1 > b.2.2.2.2) with
    | true => rfl
    | false =>
      cases hk : knowsB b p.1 with
      | false => rfl
      | true =>
        refine (lp_allI p.1.2.2.2.1 _ (fun _ u => useIn (spotAt b u.1) p.1 u) (some false) (some true) (fun g i hi => ?_) (fun g => ?_) N (by omega)).trans ?_
        · obtain ⟨h2, h3⟩ := at_of_knows hk hi
          unfold spec_l2PartOk_0r
          simp only [dlt hi, dge, gAt hi, cond_true, wrS (show i ≤ 1000000000000000000 by omega)]
          rw [ob_eq (l2Spot hN hb.2.1.1 _), decide_eq_true h2, decide_eq_true h3]
          simp only [cond_true, show b.2.1.getD (atB b p.1.2.2.2.1[i].1).toNat dSpot = spotAt b p.1.2.2.2.1[i].1 from rfl]
          rw [ob_eq (l2UseOk hN (hb.2.1.2 _ (spotAt_mem h2 h3)) hp _)]
          cases useIn (spotAt b p.1.2.2.2.1[i].1) p.1 p.1.2.2.2.1[i] <;> rfl
        · unfold spec_l2PartOk_0r
          rw [dnlt]; rfl
        · rw [allI_all]
          cases p.1.2.2.2.1.all fun u => useIn (spotAt b u.1) p.1 u <;> rfl

theorem implPartOk {N : Nat} (hN : lim < N) {b : Book} {p : Part} (hb : smB b) (hp : smP p) (hm : ∀ s ∈ b.2.1, 0 ≤ s.2.2.2.1) : impl_ClaimBook_partOk N b p = some (partOk b p) := by
  have hlim := lim_eq
  have h1 := hp.2.1.1
  unfold impl_ClaimBook_partOk impl_ClaimBook_partOkb partOk
  cases decide (p.1.1 > b.2.2.2.2) with
  | true => rfl
  | false =>
    simp only [cond_false, Bool.not_false, Bool.true_and, ob_eq (implWantOk hN hp), ob_eq (implKnows hN hb hp)]
    cases wantOk p.1 with
    | false => rfl
    | true =>
      cases hk : knowsB b p.1 with
      | false => rfl
      | true =>
        refine (lp_allI p.1.2.2.2.1 _ (fun _ u => useIn (spotAt b u.1) p.1 u) (some false) (some true) (fun g i hi => ?_) (fun g => ?_) N (by omega)).trans ?_
        · obtain ⟨h2, h3⟩ := at_of_knows hk hi
          have hmem := spotAt_mem h2 h3
          have hmost := hm _ hmem
          unfold impl_ClaimBook_partOk_0r
          simp only [dlt hi, dge, gAt hi, cond_true, wrS (show i ≤ 1000000000000000000 by omega)]
          rw [ob_eq (implAt hN hb.2.1.1 _), decide_eq_true h2, decide_eq_true h3]
          simp only [cond_true]
          change (bif decide (IntKind.i64.wrap ((spotAt b p.1.2.2.2.1[i].1).2.2.1 + p.1.2.2.2.1[i].2.2) > (spotAt b p.1.2.2.2.1[i].1).2.2.2.1) then _ else _) = _
          simp only [show b.2.1.getD (atB b p.1.2.2.2.1[i].1).toNat dSpot = spotAt b p.1.2.2.2.1[i].1 from rfl]
          generalize spotAt b p.1.2.2.2.1[i].1 = s at hmem hmost ⊢
          generalize p.1.2.2.2.1[i] = u
          simp only [ob_eq (implWithin hN (hb.2.1.2 s hmem).2.1 hp.1.1), ob_eq (implWithin hN hp.1.1 (hb.2.1.2 s hmem).2.1), bne]
          have e1 : (s.2.2.2.1 == 0) = !decide (s.2.2.2.1 > 0) := by
            by_cases h : s.2.2.2.1 = 0
            · rw [h]; rfl
            · rw [decide_eq_true (by omega)]
              exact beq_eq_false_iff_ne.2 h
          have e2 : decide (IntKind.i64.wrap (s.2.2.1 + u.2.2) > s.2.2.2.1) = !decide (IntKind.i64.wrap (s.2.2.1 + u.2.2) ≤ s.2.2.2.1) := by
            by_cases h : IntKind.i64.wrap (s.2.2.1 + u.2.2) ≤ s.2.2.2.1
            · rw [decide_eq_true h, decide_eq_false (by omega)]; rfl
            · rw [decide_eq_false h, decide_eq_true (by omega)]; rfl
          rw [e1, e2]
          unfold useIn
          generalize (p.1.2.1 == 2) = x0
          generalize decide (s.2.2.2.1 > 0) = x1
          generalize (p.1.2.1 == 1) = x2
          generalize (u.2.1 == 2) = x3
          generalize (u.2.1 == 1) = x4
          generalize (s.2.2.2.2.all fun x => p.1.2.2.1.contains x) = x5
          generalize (p.1.2.2.1.all fun x => s.2.2.2.2.contains x) = x6
          generalize decide (IntKind.i64.wrap (s.2.2.1 + u.2.2) ≤ s.2.2.2.1) = x7
          generalize g ((i + 1 : Nat) : Int) = gg
          cases x7 <;> cases x0 <;> cases x1 <;> cases x2 <;> cases x3 <;> cases x4 <;> cases x5 <;> cases x6 <;> rfl
        · unfold impl_ClaimBook_partOk_0r
          rw [dnlt]; rfl
        · rw [allI_all]
          cases p.1.2.2.2.1.all fun u => useIn (spotAt b u.1) p.1 u <;> rfl
end Go.MC

/- ClaimBookOk and ClaimMay: the laws. -/
set_option linter.unusedVariables false
set_option linter.unusedSimpArgs false
namespace Go.MC
open Go.MC.F

/-! Spots -/
def spotOk (b : Book) (s : Spot) : Bool := nmOk s.1 && (inB s.2.1 0 1000 && (inB s.2.2.1 0 s.2.2.2.1 && (!decide (s.2.2.2.1 > s.2.1) && (nmsOk s.2.2.2.2 8 && !clash b s.2.2.2.2 s.2.2.2.2))))
def spotI (b : Book) (i : Nat) (s : Spot) : Bool := spotOk b s && (i == 0 || Op.bytesLess (b.2.1.getD (i - 1) dSpot).1 s.1)
def spotsOk (b : Book) : Bool := !decide ((b.2.1.length : Int) > 8) && allI (spotI b) 0 b.2.1

theorem l2SpotOk {N : Nat} (hN : lim < N) {b : Book} {s : Spot} (hb : b.1.length ≤ 1048576) (hs : smS s) : spec_l2SpotOk N b s = some (spotOk b s) := by
  have hlim := lim_eq
  have h1 := hs.2.1
  unfold spec_l2SpotOk spec_l2SpotOkb spotOk
  rw [ob_eq (l1NameOk hN _)]
  simp only [ob_eq (l1In s.2.1 0 1000), ob_eq (l1In s.2.2.1 0 s.2.2.2.1), ob_eq (l1NamesOk hN (show s.2.2.2.2.length ≤ lim by omega) 8)]
  have loop : spec_l2SpotOk_0 N b s N 0 = some (!clash b s.2.2.2.2 s.2.2.2.2) := by
    refine (lp_allI s.2.2.2.2 _ (fun _ x => !(s.2.2.2.2.any fun v => isFoe b x v)) (some false) (some true) (fun g i hi => ?_) (fun g => ?_) N (by omega)).trans ?_
    · unfold spec_l2SpotOk_0r
      simp only [dlt hi, dge, gAt hi, cond_true, wrS (show i ≤ 1000000000000000000 by omega)]
      rw [ob_eq (l2Clash hN hb _ h1)]
      cases s.2.2.2.2.any fun v => isFoe b s.2.2.2.2[i] v <;> rfl
    · unfold spec_l2SpotOk_0r
      rw [dnlt]; rfl
    · rw [allI_all, not_any, clash_eq]
      cases s.2.2.2.2.any fun u => s.2.2.2.2.any fun v => isFoe b u v <;> rfl
  rw [loop]
  cases nmOk s.1 <;> cases inB s.2.1 0 1000 <;> cases inB s.2.2.1 0 s.2.2.2.1 <;> cases decide (s.2.2.2.1 > s.2.1) <;> cases nmsOk s.2.2.2.2 8 <;> rfl

/-! Wants that have something in common -/
def share (a b : Want) : Bool := a.2.2.2.1.any fun u => b.2.2.2.1.any fun v => u.1 == v.1
def cross (a b : Want) : Bool := (a.2.2.2.2.1.any fun x => b.2.2.2.2.1.contains x) || ((a.2.2.2.2.1.any fun x => b.2.2.2.2.2.contains x) || (a.2.2.2.2.2.any fun x => b.2.2.2.2.1.contains x))

/-- A loop that appends. -/
theorem lp_app {α β : Type} {l : List α} {rd : (Int → List β → Option (List β)) → Int → List β → Option (List β)} (f : α → β)
    (hstep : ∀ (g : Int → List β → Option (List β)) (i : Nat) (out : List β) (h : i < l.length), out.length ≤ i → rd g (i : Int) out = g ((i + 1 : Nat) : Int) (out ++ [f l[i]]))
    (hend : ∀ (g : Int → List β → Option (List β)) (out : List β), rd g (l.length : Int) out = some out) {N : Nat} (hN : l.length < N) : lp (fun _ _ => none) rd N 0 [] = some (l.map f) := by
  have := lp_walk l (fun (g : Int → List β → Option (List β)) i (d : List β) => g (i : Int) d) (fun _ _ => none) rd (fun i d x => .inl (d ++ [f x])) (fun d => some d) (fun i d => d.length ≤ i)
    (fun g i st h hi => ⟨hstep g i st h hi, fun st' hs => by cases hs; simp; omega⟩) (fun g d hd => hend g d) N hN [] (by simp)
  refine this.trans ?_
  have : ∀ (l : List α) i (d : List β), outW (fun d => some d) (walkL (fun i (d : List β) x => (Sum.inl (d ++ [f x]) : List β ⊕ Option (List β))) i l d) = some (d ++ l.map f) := by
    intro l
    induction l with
    | nil => intro i d; simp [walkL, outW]
    | cons x xs ih =>
      intro i d
      simp only [walkL]
      rw [ih (i + 1) (d ++ [f x])]
      simp
  rw [this l 0 []]; rfl

theorem l2Uses {N : Nat} (hN : lim < N) {w : Want} (hw : smW w) : spec_l2Uses N w = some (w.2.2.2.1.map (·.1)) := by
  have hlim := lim_eq
  have h1 := hw.2.1.1
  unfold spec_l2Uses spec_l2Usesb
  refine lp_app (l := w.2.2.2.1) (fun u : Use => u.1) (fun g i out hi ho => ?_) (fun g out => ?_) (by omega)
  · unfold spec_l2Uses_0r
    simp only [dlt hi, dge, gAt hi, cond_true, wrS (show i ≤ 1000000000000000000 by omega)]
    have : (decide ((out.length + [w.2.2.2.1[i].1].length) * 16 ≤ lim) && Nat.ble 1 16) = true := by
      rw [decide_eq_true (by simp; omega)]; rfl
    simp only [this, cond_true]
  · unfold spec_l2Uses_0r
    rw [dnlt]; rfl
theorem share_eq (a b : Want) : ((a.2.2.2.1.map (·.1)).any fun x => (b.2.2.2.1.map (·.1)).contains x) = share a b := by
  unfold share
  rw [List.any_map]
  congr 1
  funext u
  simp only [Function.comp, List.contains_eq_any_beq, List.any_map]
  rfl
theorem l2Share {N : Nat} (hN : lim < N) {a b : Want} (ha : smW a) (hb : smW b) : spec_l1Share N (a.2.2.2.1.map (·.1)) (b.2.2.2.1.map (·.1)) = some (share a b) := by
  have hlim := lim_eq
  have h1 := ha.2.1.1
  have h2 := hb.2.1.1
  rw [l1Share hN (by simp; omega) (by simp; omega), share_eq]
theorem l2Crosses {N : Nat} (hN : lim < N) {a b : Want} (ha : smW a) (hb : smW b) : spec_l2Crosses N a b = some (cross a b) := by
  have hlim := lim_eq
  have h1 : a.2.2.2.2.1.length ≤ 1048576 := ha.2.2.1.1
  have h2 : a.2.2.2.2.2.length ≤ 1048576 := ha.2.2.2.1
  have h3 : b.2.2.2.2.1.length ≤ 1048576 := hb.2.2.1.1
  have h4 : b.2.2.2.2.2.length ≤ 1048576 := hb.2.2.2.1
  unfold spec_l2Crosses cross
  rw [ob_eq (l1Share hN (show a.2.2.2.2.1.length ≤ lim by omega) (show b.2.2.2.2.1.length ≤ lim by omega))]
  simp only [ob_eq (l1Share hN (show a.2.2.2.2.1.length ≤ lim by omega) (show b.2.2.2.2.2.length ≤ lim by omega)), ob_eq (l1Share hN (show a.2.2.2.2.2.length ≤ lim by omega) (show b.2.2.2.2.1.length ≤ lim by omega))]
  cases (a.2.2.2.2.1.any fun x => b.2.2.2.2.1.contains x) <;> cases (a.2.2.2.2.1.any fun x => b.2.2.2.2.2.contains x) <;> rfl
theorem implCross {N : Nat} (hN : lim < N) {a b : Want} (ha : smW a) (hb : smW b) : impl_cross N a b = some (cross a b) := by
  have hlim := lim_eq
  have h1 : a.2.2.2.2.1.length ≤ 1048576 := ha.2.2.1.1
  have h2 : a.2.2.2.2.2.length ≤ 1048576 := ha.2.2.2.1
  have h3 : b.2.2.2.2.1.length ≤ 1048576 := hb.2.2.1.1
  have h4 : b.2.2.2.2.2.length ≤ 1048576 := hb.2.2.2.1
  unfold impl_cross cross
  rw [ob_eq (implCommon hN (show a.2.2.2.2.1.length ≤ lim by omega) (show b.2.2.2.2.1.length ≤ lim by omega))]
  simp only [ob_eq (implCommon hN (show a.2.2.2.2.1.length ≤ lim by omega) (show b.2.2.2.2.2.length ≤ lim by omega)), ob_eq (implCommon hN (show a.2.2.2.2.2.length ≤ lim by omega) (show b.2.2.2.2.1.length ≤ lim by omega))]
  cases (a.2.2.2.2.1.any fun x => b.2.2.2.2.1.contains x) <;> cases (a.2.2.2.2.1.any fun x => b.2.2.2.2.2.contains x) <;> rfl

theorem implShare {N : Nat} (hN : lim < N) {a b : Want} (ha : smW a) (hb : smW b) : impl_share N a b = some (share a b) := by
  have hlim := lim_eq
  have h1 := ha.2.1.1
  have h2 := hb.2.1.1
  have inner : ∀ u : Use, impl_share_c1 N u b = some (b.2.2.2.1.any fun v => u.1 == v.1, b) := by
    intro u
    unfold impl_share_c1 slices_ContainsFunc_ClaimUse__impl_share_c1_c1
    have h : slices_IndexFunc_ClaimUse__impl_share_c1_c1 N b.2.2.2.1 u = some (idxB (fun v : Use => u.1 == v.1) 0 b.2.2.2.1, u) := by
      unfold slices_IndexFunc_ClaimUse__impl_share_c1_c1 slices_IndexFunc_ClaimUse__impl_share_c1_c1b
      have := lp_walk b.2.2.2.1 (fun (g : Int → Txt → Int → Int → Option (Int × Use)) i (d : Use) => g (i : Int) d.1 d.2.1 d.2.2) (fun _ _ _ _ => none) (slices_IndexFunc_ClaimUse__impl_share_c1_c1_0r N b.2.2.2.1 (b.2.2.2.1.length : Int)) (fun i d x => bif u.1 == x.1 then .inr (some ((i : Int), d)) else .inl d) (fun d => some (-1, d)) (fun _ d => d = u)
        (fun g i st h hi => ⟨by
          subst hi
          unfold slices_IndexFunc_ClaimUse__impl_share_c1_c1_0r
          simp only [dlt h, dge, gAt h, cond_true, wrS (show i ≤ 1000000000000000000 by omega)]
          rw [ob_eq (show impl_share_c1_c1 N b.2.2.2.1[i] (st.1, st.2.1, st.2.2) = some (st.1 == b.2.2.2.1[i].1, st) from rfl)]
          cases st.1 == b.2.2.2.1[i].1 <;> rfl, fun st' hs => by
          subst hi
          cases hp : st.1 == b.2.2.2.1[i].1 with
          | true => rw [hp] at hs; cases hs
          | false => rw [hp] at hs; cases hs; rfl⟩) (fun g d hd => by
          subst hd
          unfold slices_IndexFunc_ClaimUse__impl_share_c1_c1_0r
          rw [dnlt]; rfl) N (by omega) u rfl
      refine this.trans ?_
      have : ∀ (l : List Use) i, outW (fun d => some (-1, d)) (walkL (fun i (d : Use) (x : Use) => bif u.1 == x.1 then Sum.inr (some ((i : Int), d)) else Sum.inl d) i l u) = some (idxB (fun v : Use => u.1 == v.1) i l, u) := by
        intro l
        induction l with
        | nil => intro i; rfl
        | cons x xs ih =>
          intro i
          simp only [walkL, idxB]
          cases u.1 == x.1 with
          | false => simpa using ih (i + 1)
          | true => rfl
      exact this b.2.2.2.1 0
    rw [ob_eq (a := (b.2.2.2.1.any fun v => u.1 == v.1, u)) (by rw [ob_eq h, idxB_nonneg])]
  unfold impl_share slices_ContainsFunc_ClaimUse__impl_share_c1 share
  have h : slices_IndexFunc_ClaimUse__impl_share_c1 N a.2.2.2.1 b = some (idxB (fun u : Use => b.2.2.2.1.any fun v => u.1 == v.1) 0 a.2.2.2.1, b) := by
    unfold slices_IndexFunc_ClaimUse__impl_share_c1 slices_IndexFunc_ClaimUse__impl_share_c1b
    have := lp_walk a.2.2.2.1 (fun (g : Int → Int → Int → List Txt → List Use → List Txt → List Txt → Option (Int × Want)) i (d : Want) => g (i : Int) d.1 d.2.1 d.2.2.1 d.2.2.2.1 d.2.2.2.2.1 d.2.2.2.2.2) (fun _ _ _ _ _ _ _ => none) (slices_IndexFunc_ClaimUse__impl_share_c1_0r N a.2.2.2.1 (a.2.2.2.1.length : Int)) (fun i d x => bif b.2.2.2.1.any (fun v => x.1 == v.1) then .inr (some ((i : Int), d)) else .inl d) (fun d => some (-1, d)) (fun _ d => d = b)
      (fun g i st h hi => ⟨by
        subst hi
        unfold slices_IndexFunc_ClaimUse__impl_share_c1_0r
        simp only [dlt h, dge, gAt h, cond_true, wrS (show i ≤ 1000000000000000000 by omega)]
        rw [ob_eq (show impl_share_c1 N a.2.2.2.1[i] (st.1, st.2.1, st.2.2.1, st.2.2.2.1, st.2.2.2.2.1, st.2.2.2.2.2) = some (st.2.2.2.1.any fun v => a.2.2.2.1[i].1 == v.1, st) from inner _)]
        cases st.2.2.2.1.any fun v => a.2.2.2.1[i].1 == v.1 <;> rfl, fun st' hs => by
        subst hi
        cases hp : st.2.2.2.1.any (fun v => a.2.2.2.1[i].1 == v.1) with
        | true => rw [hp] at hs; cases hs
        | false => rw [hp] at hs; cases hs; rfl⟩) (fun g d hd => by
        subst hd
        unfold slices_IndexFunc_ClaimUse__impl_share_c1_0r
        rw [dnlt]; rfl) N (by omega) b rfl
    refine this.trans ?_
    have : ∀ (l : List Use) i, outW (fun d => some (-1, d)) (walkL (fun i (d : Want) (x : Use) => bif b.2.2.2.1.any (fun v => x.1 == v.1) then Sum.inr (some ((i : Int), d)) else Sum.inl d) i l b) = some (idxB (fun u : Use => b.2.2.2.1.any fun v => u.1 == v.1) i l, b) := by
      intro l
      induction l with
      | nil => intro i; rfl
      | cons x xs ih =>
        intro i
        simp only [walkL, idxB]
        cases b.2.2.2.1.any fun v => x.1 == v.1 with
        | false => simpa using ih (i + 1)
        | true => rfl
    exact this a.2.2.2.1 0
  rw [ob_eq (a := (a.2.2.2.1.any fun u => b.2.2.2.1.any fun v => u.1 == v.1, b)) (by rw [ob_eq h, idxB_nonneg])]

/-! Parts -/
def partI (b : Book) (i : Nat) (p : Part) : Bool := partOk b p && ((i == 0 || !decide ((b.2.2.2.1.getD (i - 1) dPart).1.1 ≥ p.1.1)) && (b.2.2.2.1.take i).all fun q => !share p.1 q.1 && !cross p.1 q.1)
def partsOk (b : Book) : Bool := !decide ((b.2.2.2.1.length : Int) > 6) && allI (partI b) 0 b.2.2.2.1
/-- A book is ok. -/
def bookOk (b : Book) : Bool := foesOk b && (nmsOk b.2.2.1 12 && (inB b.2.2.2.2 0 1000000 && (spotsOk b && partsOk b)))

theorem take_get {α : Type} {l : List α} {i k : Nat} (hk : k < (l.take i).length) : l[k]'(by simp at hk; omega) = (l.take i)[k] := by simp

theorem l2PartsOk {N : Nat} (hN : lim < N) {b : Book} (hb : smB b) : spec_l2PartsOk N b = some (partsOk b) := by
  have hlim := lim_eq
  have hlb := hb.2.2.2.1
  unfold spec_l2PartsOk spec_l2PartsOkb partsOk
  cases hlen : decide ((b.2.2.2.1.length : Int) > 6) with
  | true => rfl
  | false =>
    refine (lp_allI b.2.2.2.1 _ (partI b) (some false) (some true) (fun g i hi => ?_) (fun g => ?_) N (by omega)).trans ?_
    · have hp := hb.2.2.2.2 _ (List.getElem_mem hi)
      have inner : spec_l2PartsOk_2 N g b (i : Int) b.2.2.2.1[i].1.1 b.2.2.2.1[i].1.2.1 b.2.2.2.1[i].1.2.2.1 b.2.2.2.1[i].1.2.2.2.1 b.2.2.2.1[i].1.2.2.2.2.1 b.2.2.2.1[i].1.2.2.2.2.2 N 0 =
          bif (b.2.2.2.1.take i).all (fun q => !share b.2.2.2.1[i].1 q.1 && !cross b.2.2.2.1[i].1 q.1) then g ((i + 1 : Nat) : Int) else some false := by
        have hl : (b.2.2.2.1.take i).length = i := by simp; omega
        refine (lp_allI (b.2.2.2.1.take i) _ (fun _ q => !share b.2.2.2.1[i].1 q.1 && !cross b.2.2.2.1[i].1 q.1) (some false) (g ((i + 1 : Nat) : Int)) (fun g2 k hk => ?_) (fun g2 => ?_) N (by omega)).trans ?_
        · have hk' : k < b.2.2.2.1.length := by simp at hk; omega
          have hq := hb.2.2.2.2 _ (List.getElem_mem hk')
          have hki : k < i := by omega
          unfold spec_l2PartsOk_2r
          simp only [dlt hki, dlt hk', dge, gAt hk', cond_true, wrS (show k ≤ 1000000000000000000 by omega)]
          rw [ob_eq (show spec_l2Uses N (b.2.2.2.1[i].1.1, b.2.2.2.1[i].1.2.1, b.2.2.2.1[i].1.2.2.1, b.2.2.2.1[i].1.2.2.2.1, b.2.2.2.1[i].1.2.2.2.2.1, b.2.2.2.1[i].1.2.2.2.2.2) = _ from l2Uses hN hp), ob_eq (l2Uses hN hq), ob_eq (l2Share hN hp hq)]
          rw [← take_get hk]
          cases share b.2.2.2.1[i].1 b.2.2.2.1[k].1 with
          | true => rfl
          | false =>
            simp only [cond_false]
            rw [ob_eq (show spec_l2Crosses N (b.2.2.2.1[i].1.1, b.2.2.2.1[i].1.2.1, b.2.2.2.1[i].1.2.2.1, b.2.2.2.1[i].1.2.2.2.1, b.2.2.2.1[i].1.2.2.2.2.1, b.2.2.2.1[i].1.2.2.2.2.2) b.2.2.2.1[k].1 = _ from l2Crosses hN hp hq)]
            cases cross b.2.2.2.1[i].1 b.2.2.2.1[k].1 <;> rfl
        · unfold spec_l2PartsOk_2r
          rw [hl, dnlt, cond_false, wrS (by omega)]
        · rw [allI_all]
      unfold spec_l2PartsOk_0r partI
      simp only [dlt hi, dge, gAt hi, cond_true, wrS (show i ≤ 1000000000000000000 by omega), dgt0]
      rw [ob_eq (l2PartOk hN hb hp)]
      cases partOk b b.2.2.2.1[i] with
      | false => rfl
      | true =>
        cases h0 : i == 0 with
        | true =>
          simp only [Bool.not_true, cond_false, Bool.true_or, Bool.true_and]
          exact inner
        | false =>
          have h0' : 0 < i := by simp at h0; omega
          simp only [Bool.not_true, Bool.not_false, cond_true, cond_false, wrP (show i ≤ 1000000000000000000 by omega) h0', dge, dlt (show i - 1 < b.2.2.2.1.length by omega), gAt', Bool.false_or, Bool.true_and]
          cases decide ((b.2.2.2.1.getD (i - 1) dPart).1.1 ≥ b.2.2.2.1[i].1.1) with
          | true => rfl
          | false => exact inner
    · unfold spec_l2PartsOk_0r
      rw [dnlt]; rfl
    · cases allI (partI b) 0 b.2.2.2.1 <;> rfl

theorem specBookOk {N : Nat} (hN : lim < N) {b : Book} (hb : smB b) : spec_ClaimBookOk N b = some (bookOk b) := by
  have hlim := lim_eq
  have hls := hb.2.1.1
  have hlv : b.2.2.1.length ≤ 1048576 := hb.2.2.1.1
  unfold spec_ClaimBookOk spec_ClaimBookOkb bookOk spotsOk
  rw [ob_eq (l2FoesOk hN b)]
  simp only [ob_eq (l1NamesOk hN (show b.2.2.1.length ≤ lim by omega) 12), ob_eq (l1In b.2.2.2.2 0 1000000)]
  have loop : spec_ClaimBookOk_0 N b N 0 = some (allI (spotI b) 0 b.2.1 && partsOk b) := by
    refine (lp_allI b.2.1 _ (spotI b) (some false) (some (partsOk b)) (fun g i hi => ?_) (fun g => ?_) N (by omega)).trans ?_
    · unfold spec_ClaimBookOk_0r spotI
      simp only [dlt hi, dge, gAt hi, cond_true, wrS (show i ≤ 1000000000000000000 by omega), dgt0]
      rw [ob_eq (l2SpotOk hN hb.1.1 (hb.2.1.2 _ (List.getElem_mem hi)))]
      cases spotOk b b.2.1[i] with
      | false => rfl
      | true =>
        cases h0 : i == 0 with
        | true => rfl
        | false =>
          have h0' : 0 < i := by simp at h0; omega
          simp only [Bool.not_true, Bool.not_false, cond_true, cond_false, wrP (show i ≤ 1000000000000000000 by omega) h0', dge, dlt (show i - 1 < b.2.1.length by omega), gAt', Bool.false_or, Bool.true_and]
          cases Op.bytesLess (b.2.1.getD (i - 1) dSpot).1 b.2.1[i].1 <;> rfl
    · unfold spec_ClaimBookOk_0r
      rw [dnlt, cond_false, ob_eq (l2PartsOk hN hb)]
    · cases allI (spotI b) 0 b.2.1 <;> rfl
  rw [loop]
  cases foesOk b <;> cases decide ((b.2.1.length : Int) > 8) <;> cases nmsOk b.2.2.1 12 <;> cases inB b.2.2.2.2 0 1000000 <;> rfl

theorem most_of_spots {b : Book} (h : allI (spotI b) 0 b.2.1 = true) : ∀ s ∈ b.2.1, 0 ≤ s.2.2.2.1 := by
  intro s hs
  obtain ⟨i, hi⟩ := List.getElem?_of_mem hs
  have := allI_iff.1 h i s hi
  simp only [spotI, spotOk, inB, Bool.and_eq_true, decide_eq_true_eq] at this
  have := this.1.2.2.1
  omega

theorem implBookOk {N : Nat} (hN : lim < N) {b : Book} (hb : smB b) : impl_ClaimBookOk N b = some (bookOk b) := by
  have hlim := lim_eq
  have hlf := hb.1.1
  have hls := hb.2.1.1
  have hlv : b.2.2.1.length ≤ 1048576 := hb.2.2.1.1
  have hlp := hb.2.2.2.1
  unfold impl_ClaimBookOk impl_ClaimBookOkb bookOk foesOk spotsOk partsOk
  simp only [ob_eq (implNames hN (show b.2.2.1.length ≤ lim by omega) 12), ob_eq (implIn b.2.2.2.2 0 1000000)]
  have k4 : (∀ s ∈ b.2.1, 0 ≤ s.2.2.2.1) → impl_ClaimBookOk_4 N b (b.2.2.2.1.length : Int) N 0 = some (allI (partI b) 0 b.2.2.2.1) := by
    intro hm
    refine (lp_allI b.2.2.2.1 _ (partI b) (some false) (some true) (fun g i hi => ?_) (fun g => ?_) N (by omega)).trans ?_
    · have hp := hb.2.2.2.2 _ (List.getElem_mem hi)
      have inner : ∀ c6, impl_ClaimBookOk_6 N g b (b.2.2.2.1.length : Int) (i : Int) (b.2.2.2.1.take i) ((b.2.2.2.1.take i).length : Int) b.2.2.2.1[i].1.1 b.2.2.2.1[i].1.2.1 b.2.2.2.1[i].1.2.2.1 b.2.2.2.1[i].1.2.2.2.1 b.2.2.2.1[i].1.2.2.2.2.1 b.2.2.2.1[i].1.2.2.2.2.2 c6 N 0 =
          bif (b.2.2.2.1.take i).all (fun q => !share b.2.2.2.1[i].1 q.1 && !cross b.2.2.2.1[i].1 q.1) then g ((i + 1 : Nat) : Int) else some false := by
        intro c6
        have hl : (b.2.2.2.1.take i).length = i := by simp; omega
        refine (lp_allI (b.2.2.2.1.take i) _ (fun _ q => !share b.2.2.2.1[i].1 q.1 && !cross b.2.2.2.1[i].1 q.1) (some false) (g ((i + 1 : Nat) : Int)) (fun g2 k hk => ?_) (fun g2 => ?_) N (by omega)).trans ?_
        · have hk' : k < b.2.2.2.1.length := by simp at hk; omega
          have hq := hb.2.2.2.2 _ (List.mem_of_mem_take (List.getElem_mem hk))
          unfold impl_ClaimBookOk_6r
          simp only [dlt hk, dge, gAt hk, cond_true, wrS (show k ≤ 1000000000000000000 by omega)]
          rw [ob_eq (show impl_share N (b.2.2.2.1[i].1.1, b.2.2.2.1[i].1.2.1, b.2.2.2.1[i].1.2.2.1, b.2.2.2.1[i].1.2.2.2.1, b.2.2.2.1[i].1.2.2.2.2.1, b.2.2.2.1[i].1.2.2.2.2.2) (b.2.2.2.1.take i)[k].1 = _ from implShare hN hp hq)]
          cases share b.2.2.2.1[i].1 (b.2.2.2.1.take i)[k].1 with
          | true => rfl
          | false =>
            simp only [cond_false]
            rw [ob_eq (show impl_cross N (b.2.2.2.1[i].1.1, b.2.2.2.1[i].1.2.1, b.2.2.2.1[i].1.2.2.1, b.2.2.2.1[i].1.2.2.2.1, b.2.2.2.1[i].1.2.2.2.2.1, b.2.2.2.1[i].1.2.2.2.2.2) (b.2.2.2.1.take i)[k].1 = _ from implCross hN hp hq)]
            cases cross b.2.2.2.1[i].1 (b.2.2.2.1.take i)[k].1 <;> rfl
        · unfold impl_ClaimBookOk_6r
          rw [dnlt, cond_false, wrS (by omega)]
        · rw [allI_all]
      unfold impl_ClaimBookOk_4r partI
      simp only [dlt hi, dge, gAt hi, cond_true, wrS (show i ≤ 1000000000000000000 by omega), dgt0]
      have hle : decide ((i : Int) ≤ (b.2.2.2.1.length : Int)) = true := decide_eq_true (by omega)
      have hz : Int.toNat (0 : Int) = 0 := rfl
      have hi' : Int.toNat (i : Int) = i := rfl
      cases h0 : i == 0 with
      | true =>
        simp only [Bool.not_true, cond_false, Bool.true_or, Bool.true_and]
        rw [ob_eq (implPartOk hN hb hp hm)]
        cases partOk b b.2.2.2.1[i] with
        | false => rfl
        | true =>
          simp only [Bool.not_true, cond_false, hle, cond_true, hi', hz, List.drop_zero, Bool.true_and]
          exact inner _
      | false =>
        have h0' : 0 < i := by simp at h0; omega
        simp only [Bool.not_true, Bool.not_false, cond_true, cond_false, wrP (show i ≤ 1000000000000000000 by omega) h0', dge, dlt (show i - 1 < b.2.2.2.1.length by omega), gAt', Bool.false_or, Bool.true_and]
        cases decide ((b.2.2.2.1.getD (i - 1) dPart).1.1 ≥ b.2.2.2.1[i].1.1) with
        | true => simp
        | false =>
          rw [cond_false, ob_eq (implPartOk hN hb hp hm)]
          cases partOk b b.2.2.2.1[i] with
          | false => rfl
          | true =>
            simp only [Bool.not_true, Bool.not_false, cond_false, hle, cond_true, hi', hz, List.drop_zero, Bool.true_and]
            exact inner _
    · unfold impl_ClaimBookOk_4r
      rw [dnlt]; rfl
    · cases allI (partI b) 0 b.2.2.2.1 <;> rfl
  have k2 : impl_ClaimBookOk_2 N b (b.2.1.length : Int) N 0 = some (allI (spotI b) 0 b.2.1 && allI (partI b) 0 b.2.2.2.1) := by
    refine (lp_allI b.2.1 _ (spotI b) (some false) (impl_ClaimBookOk_4 N b (b.2.2.2.1.length : Int) N 0) (fun g i hi => ?_) (fun g => ?_) N (by omega)).trans ?_
    · have hs := hb.2.1.2 _ (List.getElem_mem hi)
      have h1 := hs.2.1
      unfold impl_ClaimBookOk_2r spotI spotOk
      simp only [dlt hi, dge, gAt hi, cond_true, wrS (show i ≤ 1000000000000000000 by omega), dgt0]
      rw [ob_eq (implName hN _)]
      have tail : (ob (impl_in N b.2.1[i].2.1 0 1000) false fun r => bif !r then some false else bif decide (b.2.1[i].2.2.1 < 0) then some false else bif decide (b.2.1[i].2.2.1 > b.2.1[i].2.2.2.1) then some false else bif decide (b.2.1[i].2.2.2.1 > b.2.1[i].2.1) then some false else
          ob (impl_names N b.2.1[i].2.2.2.2 8) false fun r => bif !r then some false else ob (impl_ClaimBook_foes N b b.2.1[i].2.2.2.2 b.2.1[i].2.2.2.2) false fun r => bif r then some false else g ((i + 1 : Nat) : Int)) =
          bif (inB b.2.1[i].2.1 0 1000 && (inB b.2.1[i].2.2.1 0 b.2.1[i].2.2.2.1 && (!decide (b.2.1[i].2.2.2.1 > b.2.1[i].2.1) && (nmsOk b.2.1[i].2.2.2.2 8 && !clash b b.2.1[i].2.2.2.2 b.2.1[i].2.2.2.2)))) then g ((i + 1 : Nat) : Int) else some false := by
        simp only [ob_eq (implIn b.2.1[i].2.1 0 1000), ob_eq (implNames hN (show b.2.1[i].2.2.2.2.length ≤ lim by omega) 8), ob_eq (implFoes hN hlf h1 h1)]
        have e1 : inB b.2.1[i].2.2.1 0 b.2.1[i].2.2.2.1 = (!decide (b.2.1[i].2.2.1 < 0) && !decide (b.2.1[i].2.2.1 > b.2.1[i].2.2.2.1)) := by
          unfold inB
          congr 1
          · by_cases h : b.2.1[i].2.2.1 < 0
            · rw [decide_eq_true h, decide_eq_false (by omega)]; rfl
            · rw [decide_eq_false h, decide_eq_true (by omega)]; rfl
          · by_cases h : b.2.1[i].2.2.1 > b.2.1[i].2.2.2.1
            · rw [decide_eq_true h, decide_eq_false (by omega)]; rfl
            · rw [decide_eq_false h, decide_eq_true (by omega)]; rfl
        rw [e1]
        cases inB b.2.1[i].2.1 0 1000 <;> cases decide (b.2.1[i].2.2.1 < 0) <;> cases decide (b.2.1[i].2.2.1 > b.2.1[i].2.2.2.1) <;> cases decide (b.2.1[i].2.2.2.1 > b.2.1[i].2.1) <;> cases nmsOk b.2.1[i].2.2.2.2 8 <;> cases clash b b.2.1[i].2.2.2.2 b.2.1[i].2.2.2.2 <;> rfl
      cases nmOk b.2.1[i].1 with
      | false => rfl
      | true =>
        cases h0 : i == 0 with
        | true =>
          simp only [Bool.not_true, cond_false, Bool.true_or, Bool.true_and, Bool.and_true]
          exact tail
        | false =>
          have h0' : 0 < i := by simp at h0; omega
          simp only [Bool.not_true, Bool.not_false, cond_true, cond_false, wrP (show i ≤ 1000000000000000000 by omega) h0', dge, dlt (show i - 1 < b.2.1.length by omega), gAt', Bool.false_or, Bool.true_and]
          cases Op.bytesLess (b.2.1.getD (i - 1) dSpot).1 b.2.1[i].1 with
          | false => simp
          | true =>
            simp only [Bool.not_true, cond_false, Bool.and_true]
            exact tail
    · unfold impl_ClaimBookOk_2r
      rw [dnlt]; rfl
    · cases hs : allI (spotI b) 0 b.2.1 with
      | false => rfl
      | true => rw [cond_true, k4 (most_of_spots hs)]; rfl
  have k0 : impl_ClaimBookOk_0 N b (b.1.length : Int) N 0 = some (allI (foeOk b) 0 b.1 && (allI (spotI b) 0 b.2.1 && allI (partI b) 0 b.2.2.2.1)) := by
    refine (lp_allI b.1 _ (foeOk b) (some false) (impl_ClaimBookOk_2 N b (b.2.1.length : Int) N 0) (fun g i hi => ?_) (fun g => ?_) N (by omega)).trans ?_
    · unfold impl_ClaimBookOk_0r foeOk
      simp only [dlt hi, dge, gAt hi, cond_true, wrS (show i ≤ 1000000000000000000 by omega), dgt0]
      rw [ob_eq (implName hN _)]
      simp only [ob_eq (implName hN b.1[i].2)]
      cases nmOk b.1[i].1 with
      | false => rfl
      | true =>
        cases nmOk b.1[i].2 with
        | false => rfl
        | true =>
          cases Op.bytesLess b.1[i].1 b.1[i].2 with
          | false => rfl
          | true =>
            cases h0 : i == 0 with
            | true => rfl
            | false =>
              have h0' : 0 < i := by simp at h0; omega
              simp only [Bool.not_true, Bool.not_false, cond_true, cond_false, wrP (show i ≤ 1000000000000000000 by omega) h0', dge, dlt (show i - 1 < b.1.length by omega), gAt', Bool.false_or, Bool.true_and]
              rw [ob_eq (implAhead _ _)]
              cases ahead (b.1.getD (i - 1) dFoe) b.1[i] <;> rfl
    · unfold impl_ClaimBookOk_0r
      rw [dnlt]; rfl
    · rw [k2]
      cases allI (foeOk b) 0 b.1 <;> rfl
  rw [k0]
  generalize decide ((b.1.length : Int) > 12) = x0
  generalize decide ((b.2.1.length : Int) > 8) = x1
  generalize decide ((b.2.2.2.1.length : Int) > 6) = x2
  generalize nmsOk b.2.2.1 12 = x3
  generalize inB b.2.2.2.2 0 1000000 = x4
  generalize allI (foeOk b) 0 b.1 = x5
  generalize allI (spotI b) 0 b.2.1 = x6
  generalize allI (partI b) 0 b.2.2.2.1 = x7
  revert x0 x1 x2 x3 x4 x5 x6 x7
  decide +kernel

theorem lp_find {α ρ : Type} (l : List α) (rd : (Int → Option ρ) → Int → Option ρ) (p : α → Bool) (f : α → ρ) (z : ρ)
    (hstep : ∀ (g : Int → Option ρ) (i : Nat) (h : i < l.length), rd g (i : Int) = bif p l[i] then some (f l[i]) else g ((i + 1 : Nat) : Int))
    (hend : ∀ (g : Int → Option ρ), rd g (l.length : Int) = some z) (N : Nat) (hN : l.length < N) : lp (fun _ => none) rd N 0 = some (((l.find? p).map f).getD z) := by
  have := lp_walk l (fun (g : Int → Option ρ) i (_ : Unit) => g (i : Int)) (fun _ => none) rd (fun i _ x => bif p x then .inr (some (f x)) else .inl ()) (fun _ => some z) (fun _ _ => True)
    (fun g i st h _ => ⟨by
      rw [hstep g i h]
      cases p l[i] <;> rfl, fun _ _ => trivial⟩) (fun g _ _ => hend g) N hN () trivial
  refine this.trans ?_
  have : ∀ (l : List α) i, outW (fun _ => some z) (walkL (fun i (_ : Unit) x => bif p x then Sum.inr (some (f x)) else Sum.inl ()) i l ()) = some (((l.find? p).map f).getD z) := by
    intro l
    induction l with
    | nil => intro i; rfl
    | cons x xs ih =>
      intro i
      simp only [walkL, List.find?_cons]
      cases p x with
      | false => simpa using ih (i + 1)
      | true => rfl
  exact this l 0
end Go.MC

/- How many names two lists have together. -/
set_option linter.unusedVariables false
set_option linter.unusedSimpArgs false
namespace Go.MC
open Go.MC.F

theorem cloneS {N : Nat} {s : List Txt} (h : s.length ≤ 1048576) : slices_Clone_string N s = some s := by
  have hlim := lim_eq
  have h1 : (decide ((0 + s.length) * 16 ≤ lim) && Nat.ble 1 16) = true := by rw [decide_eq_true (by omega)]; rfl
  unfold slices_Clone_string
  cases s with
  | nil => exact both_self _
  | cons x xs =>
    rw [h1]
    rfl

theorem implBoth {N : Nat} {a b : List Txt} (ha : a.length ≤ 1048576) (hb : b.length ≤ 1048576) : impl_both N a b = some (cmpct (srt (a ++ b))) := by
  have hlim := lim_eq
  have h1 : (decide ((a.length + b.length) * 16 ≤ lim) && Nat.ble 1 16) = true := by rw [decide_eq_true (by omega)]; rfl
  unfold impl_both
  rw [ob_eq (cloneS ha), h1]
  rfl

def unionN (a b : List Txt) : Nat := a.length + (b.filter fun x => !a.contains x).length

theorem l3Union {N : Nat} (hN : lim < N) {a b : List Txt} (ha : a.length ≤ 1048576) (hb : b.length ≤ 1048576) : spec_l3Union N a b = some (unionN a b : Int) := by
  have hlim := lim_eq
  unfold spec_l3Union spec_l3Unionb
  have := lp_walk b (fun (g : Int → Int → Option Int) i (st : Int) => g st (i : Int)) (fun _ _ => none) (spec_l3Union_0r N a b) (fun _ st x => .inl (bif a.contains x then st else st + 1)) (fun st => some st) (fun i st => 0 ≤ st ∧ st ≤ 1048576 + i)
    (fun g i st h hi => ⟨by
      unfold spec_l3Union_0r
      simp only [dlt h, dge, gAt h, cond_true, wrS (show i ≤ 1000000000000000000 by omega)]
      rw [ob_eq (l1Has hN (show a.length ≤ lim by omega) _), wr (by omega) (by omega)]
      cases a.contains b[i] <;> rfl, fun st' hs => by
      cases hs
      cases a.contains b[i]
      · exact ⟨by simp only [cond_false]; omega, by simp only [cond_false]; omega⟩
      · exact ⟨by simp only [cond_true]; omega, by simp only [cond_true]; omega⟩⟩) (fun g st _ => by
      unfold spec_l3Union_0r
      rw [dnlt]; rfl) N (by omega) (a.length : Int) ⟨by omega, by omega⟩
  refine this.trans ?_
  have : ∀ (l : List Txt) i (st : Int), outW (fun st => some st) (walkL (fun _ (st : Int) x => Sum.inl (bif a.contains x then st else st + 1)) i l st) = some (st + ((l.filter fun x => !a.contains x).length : Int)) := by
    intro l
    induction l with
    | nil => intro i st; simp [walkL, outW]
    | cons x xs ih =>
      intro i st
      simp only [walkL, List.filter_cons]
      cases a.contains x with
      | true => simpa using ih (i + 1) st
      | false =>
        simp only [cond_false, Bool.not_false, if_true, List.length_cons]
        rw [ih]
        congr 1
        omega
  rw [this, unionN]
  congr 1

/-! Sorted, compacted: each once -/
theorem comp_facts (d : Array (List UInt8)) (hs : ∀ i j, i ≤ j → j < d.size → d[i]! ≤ d[j]!) : ∀ m, m ≤ d.size → (Lib.compactUpTo d m).Nodup ∧ ∀ x, x ∈ Lib.compactUpTo d m ↔ ∃ j, j < m ∧ d[j]! = x
  | 0, _ => by simp [Lib.compactUpTo]
  | m + 1, hm => by
    obtain ⟨h1, h2⟩ := comp_facts d hs m (by omega)
    rw [Lib.compactUpTo_succ]
    cases hk : Lib.keeps d m with
    | true =>
      simp only [if_true]
      have hk' : m = 0 ∨ d[m]! ≠ d[m - 1]! := by simpa [Lib.keeps] using hk
      have hn : d[m]! ∉ Lib.compactUpTo d m := by
        intro hmem
        obtain ⟨j, hj, e⟩ := (h2 _).1 hmem
        rcases hk' with h0 | hne
        · omega
        · refine hne (List.le_antisymm ?_ (hs (m - 1) m (by omega) (by omega)))
          rw [← e]
          exact hs j (m - 1) (by omega) (by omega)
      refine ⟨List.nodup_append.2 ⟨h1, by simp, fun x hx y hy => ?_⟩, fun x => ?_⟩
      · simp at hy
        subst hy
        rintro rfl
        exact hn hx
      · rw [List.mem_append, h2, List.mem_singleton]
        constructor
        · rintro (⟨j, hj, e⟩ | rfl)
          · exact ⟨j, by omega, e⟩
          · exact ⟨m, by omega, rfl⟩
        · rintro ⟨j, hj, e⟩
          by_cases hjm : j = m
          · subst hjm; exact .inr e.symm
          · exact .inl ⟨j, by omega, e⟩
    | false =>
      have hk' : ¬ (m = 0 ∨ d[m]! ≠ d[m - 1]!) := by simpa [Lib.keeps] using hk
      have hm0 : m ≠ 0 := fun h => hk' (.inl h)
      have he : d[m]! = d[m - 1]! := by
        by_cases h : d[m]! = d[m - 1]!
        · exact h
        · exact absurd (.inr h) hk'
      simp only [Bool.false_eq_true, if_false, List.append_nil]
      refine ⟨h1, fun x => ?_⟩
      rw [h2]
      constructor
      · rintro ⟨j, hj, e⟩
        exact ⟨j, by omega, e⟩
      · rintro ⟨j, hj, e⟩
        by_cases hjm : j = m
        · subst hjm
          exact ⟨j - 1, by omega, by rw [← he]; exact e⟩
        · exact ⟨j, by omega, e⟩

theorem srt_sorted (xs : List (List UInt8)) : (srt xs).Pairwise fun a b => a ≤ b := by
  have := List.pairwise_mergeSort (le := fun (x y : List UInt8) => decide (x ≤ y)) (fun a b c h1 h2 => by simpa using List.le_trans (by simpa using h1) (by simpa using h2)) (fun a b => by simpa using List.le_total a b) xs
  exact this.imp fun h => by simpa using h

theorem comp_srt (xs : List (List UInt8)) : (cmpct (srt xs)).Nodup ∧ ∀ x, x ∈ cmpct (srt xs) ↔ x ∈ xs := by
  have hs := srt_sorted xs
  obtain ⟨h1, h2⟩ := comp_facts (srt xs).toArray (fun i j hij hj => by
    have hj' : j < (srt xs).length := by simpa using hj
    have hi' : i < (srt xs).length := by omega
    rw [getElem!_pos _ i (by simpa using hi'), getElem!_pos _ j hj]
    simp only [List.getElem_toArray]
    rcases Nat.lt_or_ge i j with h | h
    · exact List.pairwise_iff_getElem.1 hs i j hi' hj' h
    · have : i = j := by omega
      subst this
      exact List.le_refl _) (srt xs).length (by simp)
  refine ⟨h1, fun x => ?_⟩
  have h3 : x ∈ cmpct (srt xs) ↔ ∃ j, j < (srt xs).length ∧ (srt xs).toArray[j]! = x := h2 x
  rw [h3, ← srt_mem (xs := xs), List.mem_iff_getElem]
  constructor
  · rintro ⟨j, hj, e⟩
    refine ⟨j, hj, ?_⟩
    rw [getElem!_pos _ j (by simpa using hj)] at e
    simpa using e
  · rintro ⟨j, hj, e⟩
    refine ⟨j, hj, ?_⟩
    rw [getElem!_pos _ j (by simpa using hj)]
    simpa using e

theorem union_eq {a b : List Txt} (ha : a.Nodup) (hb : b.Nodup) : (cmpct (srt (a ++ b))).length = unionN a b := by
  obtain ⟨h1, h2⟩ := comp_srt (a ++ b)
  have h3 : (a ++ b.filter fun x => !a.contains x).Nodup := by
    refine List.nodup_append.2 ⟨ha, hb.filter _, fun x hx y hy => ?_⟩
    rintro rfl
    have := (List.mem_filter.1 hy).2
    simp [hx] at this
  have := (List.perm_ext_iff_of_nodup h1 h3).2 fun x => by
    rw [h2, List.mem_append, List.mem_append, List.mem_filter]
    constructor
    · rintro (h | h)
      · exact .inl h
      · by_cases hx : x ∈ a
        · exact .inl hx
        · exact .inr ⟨h, by simp [hx]⟩
    · rintro (h | ⟨h, _⟩)
      · exact .inl h
      · exact .inr h
  rw [this.length_eq, List.length_append, unionN]

theorem less_trans : ∀ {a b c : Txt}, Op.bytesLess a b = true → Op.bytesLess b c = true → Op.bytesLess a c = true
  | [], [], c, h, _ => by cases h
  | [], _ :: _, [], _, h => by cases h
  | [], _ :: _, _ :: _, _, _ => rfl
  | _ :: _, [], _, h, _ => by cases h
  | _ :: _, _ :: _, [], _, h => by cases h
  | x :: a, y :: b, z :: c, h, h' => by
    simp only [Op.bytesLess, Bool.or_eq_true, Bool.and_eq_true, decide_eq_true_eq, beq_iff_eq] at h h' ⊢
    rcases h with h | ⟨rfl, h⟩
    · rcases h' with h' | ⟨rfl, h'⟩
      · exact .inl (UInt8.lt_trans h h')
      · exact .inl h
    · rcases h' with h' | ⟨rfl, h'⟩
      · exact .inl h'
      · exact .inr ⟨rfl, less_trans h h'⟩

theorem nms_nodup {l : List Txt} {n : Int} (h : nmsOk l n = true) : l.Nodup := by
  unfold nmsOk at h
  simp only [Bool.and_eq_true] at h
  have h2 := allI_iff.1 h.2
  have h3 : ∀ j, 0 < j → (hj : j < l.length) → Op.bytesLess (l[j - 1]'(by omega)) l[j] = true := by
    intro j h0 hj
    have := h2 j l[j] (by simp [hj])
    simp only [Nat.zero_add, Bool.and_eq_true, ascI, Bool.or_eq_true, beq_iff_eq] at this
    rcases this.2 with h | h
    · omega
    · rwa [List.getD_eq_getElem?_getD, List.getElem?_eq_getElem (by omega)] at h
  have h4 : ∀ (k i : Nat) (hj : i + k + 1 < l.length), Op.bytesLess (l[i]'(by omega)) l[i + k + 1] = true := by
    intro k
    induction k with
    | zero => intro i hj; exact h3 (i + 1) (by omega) hj
    | succ k ih =>
      intro i hj
      exact less_trans (ih i (by omega)) (h3 (i + (k + 1) + 1) (by omega) hj)
  refine List.pairwise_iff_getElem.2 fun i j hi hj hij e => ?_
  have := h4 (j - i - 1) i (by omega)
  simp only [show i + (j - i - 1) + 1 = j by omega] at this
  rw [e, less_irrefl] at this
  cases this

end Go.MC

/- ClaimCode: the document's and the program's tell the same. -/
set_option linter.unusedVariables false
set_option linter.unusedSimpArgs false
namespace Go.MC
open Go.MC.F

theorem lne (m n : Nat) : ((m : Int) != (n : Int)) = !(m == n) := by
  by_cases h : m = n
  · subst h; simp
  · have : ¬ ((m : Int) = (n : Int)) := by omega
    show (!((m : Int) == (n : Int))) = _
    rw [beq_eq_false_iff_ne.2 this, beq_eq_false_iff_ne.2 h]
theorem bneI (m n : Int) : (m != n) = !(m == n) := rfl
theorem lp_pos {F : Type} (z : F) (rd : F → F) {N : Nat} (h : 0 < N) : lp z rd N = rd (lp z rd (N - 1)) := by
  cases N with
  | zero => omega
  | succ n => rfl

/-! The same want -/
def alike (a b : List Txt) : Bool := (a.length == b.length) && allI (fun i x => x == b.getD i []) 0 a
def eqU (u v : Use) : Bool := u.1 == v.1 && (u.2.1 == v.2.1 && (u.2.2 == v.2.2 && true))
def alikeU (a b : List Use) : Bool := (a.length == b.length) && allI (fun i x => eqU x (b.getD i dUse)) 0 a
def sameW (a b : Want) : Bool := (a.1 == b.1) && ((a.2.1 == b.2.1) && (alike a.2.2.1 b.2.2.1 && (alikeU a.2.2.2.1 b.2.2.2.1 && (alike a.2.2.2.2.1 b.2.2.2.2.1 && alike a.2.2.2.2.2 b.2.2.2.2.2))))

theorem l1Alike {N : Nat} (hN : lim < N) {a b : List Txt} (ha : a.length ≤ 1048576) : spec_l1Alike N a b = some (alike a b) := by
  have hlim := lim_eq
  unfold spec_l1Alike spec_l1Alikeb alike
  rw [lne]
  cases h : a.length == b.length with
  | false => rfl
  | true =>
    have h' : a.length = b.length := by simpa using h
    refine (lp_allI a _ (fun i x => x == b.getD i []) (some false) (some true) (fun g i hi => ?_) (fun g => ?_) N (by omega)).trans ?_
    · unfold spec_l1Alike_0r
      simp only [dlt hi, dlt (show i < b.length by omega), dge, gAt hi, cond_true, wrS (show i ≤ 1000000000000000000 by omega)]
      simp only [gAt']
      cases a[i] == b.getD i [] <;> rfl
    · unfold spec_l1Alike_0r
      rw [dnlt]; rfl
    · cases allI (fun i x => x == b.getD i []) 0 a <;> rfl
theorem slicesEqual {N : Nat} (hN : lim < N) {a b : List Txt} (ha : a.length ≤ 1048576) : slices_Equal_string N a b = some (alike a b) := by
  have hlim := lim_eq
  unfold slices_Equal_string slices_Equal_stringb alike
  rw [lne]
  cases h : a.length == b.length with
  | false => rfl
  | true =>
    have h' : a.length = b.length := by simpa using h
    refine (lp_allI a _ (fun i x => x == b.getD i []) (some false) (some true) (fun g i hi => ?_) (fun g => ?_) N (by omega)).trans ?_
    · unfold slices_Equal_string_0r
      simp only [dlt hi, dlt (show i < b.length by omega), dge, gAt hi, cond_true, wrS (show i ≤ 1000000000000000000 by omega)]
      simp only [gAt']
      cases a[i] == b.getD i [] <;> rfl
    · unfold slices_Equal_string_0r
      rw [dnlt]; rfl
    · cases allI (fun i x => x == b.getD i []) 0 a <;> rfl
theorem slicesEqualU {N : Nat} (hN : lim < N) {a b : List Use} (ha : a.length ≤ 1048576) : slices_Equal_ClaimUse N a b = some (alikeU a b) := by
  have hlim := lim_eq
  unfold slices_Equal_ClaimUse slices_Equal_ClaimUseb alikeU
  rw [lne]
  cases h : a.length == b.length with
  | false => rfl
  | true =>
    have h' : a.length = b.length := by simpa using h
    refine (lp_allI a _ (fun i x => eqU x (b.getD i dUse)) (some false) (some true) (fun g i hi => ?_) (fun g => ?_) N (by omega)).trans ?_
    · unfold slices_Equal_ClaimUse_0r
      simp only [dlt hi, dlt (show i < b.length by omega), dge, gAt hi, cond_true, wrS (show i ≤ 1000000000000000000 by omega)]
      simp only [gAt']
      show (bif !(eqU a[i] (b.getD i dUse)) then some false else g ((i + 1 : Nat) : Int)) = _
      cases eqU a[i] (b.getD i dUse) <;> rfl
    · unfold slices_Equal_ClaimUse_0r
      rw [dnlt]; rfl
    · cases allI (fun i x => eqU x (b.getD i dUse)) 0 a <;> rfl

theorem l1Same {N : Nat} (hN : lim < N) {a b : Want} (ha : smW a) : spec_l1Same N a b = some (sameW a b) := by
  have hlim := lim_eq
  have h1 := ha.2.1.1
  unfold spec_l1Same spec_l1Sameb sameW alikeU
  rw [bneI, bneI, lne]
  simp only [ob_eq (l1Alike hN (b := b.2.2.1) ha.1.1), ob_eq (l1Alike hN (b := b.2.2.2.2.1) ha.2.2.1.1), ob_eq (l1Alike hN (b := b.2.2.2.2.2) ha.2.2.2.1)]
  cases h : a.2.2.2.1.length == b.2.2.2.1.length with
  | false =>
    cases a.1 == b.1 <;> cases a.2.1 == b.2.1 <;> cases alike a.2.2.1 b.2.2.1 <;> rfl
  | true =>
    have h' : a.2.2.2.1.length = b.2.2.2.1.length := by simpa using h
    have k : spec_l1Same_0 N a b N 0 = some (allI (fun i x => eqU x (b.2.2.2.1.getD i dUse)) 0 a.2.2.2.1) := by
      refine (lp_allI a.2.2.2.1 _ (fun i x => eqU x (b.2.2.2.1.getD i dUse)) (some false) (some true) (fun g i hi => ?_) (fun g => ?_) N (by omega)).trans ?_
      · unfold spec_l1Same_0r
        simp only [dlt hi, dlt (show i < b.2.2.2.1.length by omega), dge, gAt hi, cond_true, wrS (show i ≤ 1000000000000000000 by omega)]
        simp only [gAt']
        show (bif !(eqU a.2.2.2.1[i] (b.2.2.2.1.getD i dUse)) then some false else g ((i + 1 : Nat) : Int)) = _
        cases eqU a.2.2.2.1[i] (b.2.2.2.1.getD i dUse) <;> rfl
      · unfold spec_l1Same_0r
        rw [dnlt]; rfl
      · cases allI (fun i x => eqU x (b.2.2.2.1.getD i dUse)) 0 a.2.2.2.1 <;> rfl
    rw [k]
    cases a.1 == b.1 <;> cases a.2.1 == b.2.1 <;> cases alike a.2.2.1 b.2.2.1 <;> cases alike a.2.2.2.2.1 b.2.2.2.2.1 <;> cases alike a.2.2.2.2.2 b.2.2.2.2.2 <;> cases allI (fun i x => eqU x (b.2.2.2.1.getD i dUse)) 0 a.2.2.2.1 <;> rfl
theorem implSame {N : Nat} (hN : lim < N) {a b : Want} (ha : smW a) : impl_same N a b = some (sameW a b) := by
  unfold impl_same sameW
  simp only [ob_eq (slicesEqual hN (b := b.2.2.1) ha.1.1), ob_eq (slicesEqualU hN (b := b.2.2.2.1) ha.2.1.1), ob_eq (slicesEqual hN (b := b.2.2.2.2.1) ha.2.2.1.1), ob_eq (slicesEqual hN (b := b.2.2.2.2.2) ha.2.2.2.1)]
  cases a.1 == b.1 <;> cases a.2.1 == b.2.1 <;> cases alike a.2.2.1 b.2.2.1 <;> cases alikeU a.2.2.2.1 b.2.2.2.1 <;> cases alike a.2.2.2.2.1 b.2.2.2.2.1 <;> rfl

/-! Which part -/
def partAt (b : Book) (n : Int) : Int := idxB (fun p : Part => p.1.1 == n) 0 b.2.2.2.1
theorem l2Part {N : Nat} (hN : lim < N) {b : Book} (hb : smB b) (n : Int) : spec_l2Part N b n = some (partAt b n) := by
  have hlim := lim_eq
  have hlp := hb.2.2.2.1
  unfold spec_l2Part spec_l2Partb partAt
  refine lp_idx b.2.2.2.1 _ (fun p : Part => p.1.1 == n) (fun g i hi => ?_) (fun g => ?_) N (by omega)
  · unfold spec_l2Part_0r
    simp only [dlt hi, dge, gAt hi, cond_true, wrS (show i ≤ 1000000000000000000 by omega)]
  · unfold spec_l2Part_0r
    rw [dnlt]; rfl
theorem implPart {N : Nat} (hN : lim < N) {b : Book} (hb : smB b) (n : Int) : impl_ClaimBook_part N b n = some (partAt b n) := by
  have hlim := lim_eq
  have hlp := hb.2.2.2.1
  unfold impl_ClaimBook_part partAt
  have h : slices_IndexFunc_ClaimPart__impl_ClaimBook_part_c1 N b.2.2.2.1 n = some (idxB (fun p : Part => p.1.1 == n) 0 b.2.2.2.1, n) := by
    unfold slices_IndexFunc_ClaimPart__impl_ClaimBook_part_c1 slices_IndexFunc_ClaimPart__impl_ClaimBook_part_c1b
    refine lp_idxC b.2.2.2.1 _ (fun p : Part => p.1.1 == n) n (fun g i hi => ?_) (fun g => ?_) N (by omega)
    · unfold slices_IndexFunc_ClaimPart__impl_ClaimBook_part_c1_0r
      simp only [dlt hi, dge, gAt hi, cond_true, wrS (show i ≤ 1000000000000000000 by omega)]
      rw [ob_eq (show impl_ClaimBook_part_c1 N b.2.2.2.1[i] n = some (b.2.2.2.1[i].1.1 == n, n) from rfl)]
    · unfold slices_IndexFunc_ClaimPart__impl_ClaimBook_part_c1_0r
      rw [dnlt]; rfl
  rw [ob_eq h]

/-! Sides do not matter -/
theorem any2_comm {α β : Type} (l : List α) (m : List β) (p : α → β → Bool) : (l.any fun x => m.any fun y => p x y) = m.any fun y => l.any fun x => p x y := by
  rw [Bool.eq_iff_iff]
  simp only [List.any_eq_true]
  constructor
  · rintro ⟨x, hx, y, hy, h⟩; exact ⟨y, hy, x, hx, h⟩
  · rintro ⟨y, hy, x, hx, h⟩; exact ⟨x, hx, y, hy, h⟩
theorem share_comm (a b : Want) : share a b = share b a := by
  unfold share
  rw [any2_comm]
  congr 1
  funext u
  congr 1
  funext v
  exact BEq.comm
theorem anyC_comm (l m : List Txt) : (l.any fun x => m.contains x) = m.any fun x => l.contains x := by
  simp only [List.contains_eq_any_beq]
  rw [any2_comm]
  congr 1
  funext u
  congr 1
  funext v
  exact BEq.comm
theorem cross_comm (a b : Want) : cross a b = cross b a := by
  unfold cross
  rw [anyC_comm a.2.2.2.2.1 b.2.2.2.2.1, anyC_comm a.2.2.2.2.1 b.2.2.2.2.2, anyC_comm a.2.2.2.2.2 b.2.2.2.2.1]
  cases (b.2.2.2.2.1.any fun x => a.2.2.2.2.1.contains x) <;> cases (b.2.2.2.2.2.any fun x => a.2.2.2.2.1.contains x) <;> cases (b.2.2.2.2.1.any fun x => a.2.2.2.2.2.contains x) <;> rfl
theorem clash_comm (b : Book) (x y : List Txt) : clash b x y = clash b y x := by
  unfold clash
  congr 1
  funext f
  cases x.contains f.1 <;> cases y.contains f.1 <;> cases x.contains f.2 <;> cases y.contains f.2 <;> rfl

theorem l2Clashes {N : Nat} (hN : lim < N) {b : Book} (hb : b.1.length ≤ 1048576) {x y : List Txt} (hx : x.length ≤ 1048576) (hy : y.length ≤ 1048576) : spec_l2Clashes N b x y = some (clash b x y) := by
  have hlim := lim_eq
  unfold spec_l2Clashes spec_l2Clashesb
  refine (lp_allI x _ (fun _ u => !(y.any fun v => isFoe b u v)) (some true) (some false) (fun g i hi => ?_) (fun g => ?_) N (by omega)).trans ?_
  · unfold spec_l2Clashes_0r
    simp only [dlt hi, dge, gAt hi, cond_true, wrS (show i ≤ 1000000000000000000 by omega)]
    rw [ob_eq (l2Clash hN hb _ hy)]
    cases y.any fun v => isFoe b x[i] v <;> rfl
  · unfold spec_l2Clashes_0r
    rw [dnlt]; rfl
  · rw [allI_all, not_any, clash_eq]
    cases x.any fun u => y.any fun v => isFoe b u v <;> rfl

/-! What is wrong with a use -/
def stuffU (b : Book) (w : Want) (u : Use) : Int :=
  bif u.2.1 == 2 then (bif clash b w.2.2.1 (spotAt b u.1).2.2.2.2 then 8 else bif decide ((unionN (spotAt b u.1).2.2.2.2 w.2.2.1 : Int) > 8) then 5 else 0)
  else bif (spotAt b u.1).2.2.2.2.all (fun x => w.2.2.1.contains x) then 0 else 8
def amountU (b : Book) (w : Want) (u : Use) : Int :=
  bif u.2.1 == 1 && decide ((spotAt b u.1).2.2.1 < u.2.2) then 9
  else bif u.2.1 == 2 && decide (IntKind.i64.wrap ((spotAt b u.1).2.2.2.1 + u.2.2) > (spotAt b u.1).2.1) then 10
  else bif w.2.1 == 2 && decide ((spotAt b u.1).2.2.2.1 > 0) then 11 else 0
def first (f : Use → Int) (l : List Use) : Int := ((l.find? fun u => f u != 0).map f).getD 0
theorem first_getD (f : Use → Int) (l : List Use) (z : Int) : ((l.find? fun u => f u != 0).map f).getD z = bif first f l != 0 then first f l else z := by
  unfold first
  cases h : l.find? fun u => f u != 0 with
  | none => rfl
  | some u =>
    have := List.find?_some h
    simp only [Option.map_some, Option.getD_some]
    have h2 : (f u != 0) = true := by simpa using this
    rw [h2]; rfl
def stuffs (b : Book) (w : Want) : Int := bif clash b w.2.2.1 w.2.2.1 then 8 else bif w.2.1 == 1 then first (stuffU b w) w.2.2.2.1 else 0
def amounts (b : Book) (w : Want) : Int := first (amountU b w) w.2.2.2.1

theorem l3Amounts {N : Nat} (hN : lim < N) {b : Book} {w : Want} (hb : smB b) (hw : smW w) (hk : knowsB b w = true) : spec_l3Amounts N b w = some (amounts b w) := by
  have hlim := lim_eq
  have h1 := hw.2.1.1
  unfold spec_l3Amounts spec_l3Amountsb amounts first
  refine lp_find w.2.2.2.1 _ (fun u => amountU b w u != 0) (amountU b w) 0 (fun g i hi => ?_) (fun g => ?_) N (by omega)
  · obtain ⟨h2, h3⟩ := at_of_knows hk hi
    unfold spec_l3Amounts_0r
    simp only [dlt hi, dge, gAt hi, cond_true, wrS (show i ≤ 1000000000000000000 by omega)]
    rw [ob_eq (l2Spot hN hb.2.1.1 _), decide_eq_true h2, decide_eq_true h3]
    simp only [cond_true, show b.2.1.getD (atB b w.2.2.2.1[i].1).toNat dSpot = spotAt b w.2.2.2.1[i].1 from rfl]
    unfold amountU
    cases w.2.2.2.1[i].2.1 == 1 <;> cases decide ((spotAt b w.2.2.2.1[i].1).2.2.1 < w.2.2.2.1[i].2.2) <;> cases w.2.2.2.1[i].2.1 == 2 <;> cases decide (IntKind.i64.wrap ((spotAt b w.2.2.2.1[i].1).2.2.2.1 + w.2.2.2.1[i].2.2) > (spotAt b w.2.2.2.1[i].1).2.1) <;> cases w.2.1 == 2 <;> cases decide ((spotAt b w.2.2.2.1[i].1).2.2.2.1 > 0) <;> rfl
  · unfold spec_l3Amounts_0r
    rw [dnlt]; rfl
theorem implAmounts {N : Nat} (hN : lim < N) {b : Book} {w : Want} (hb : smB b) (hw : smW w) (hk : knowsB b w = true) (c : Bool) : impl_ClaimCode_3 N b (c, w) (w.2.2.2.1.length : Int) N 0 = some (amounts b w) := by
  have hlim := lim_eq
  have h1 := hw.2.1.1
  unfold impl_ClaimCode_3 amounts first
  refine lp_find w.2.2.2.1 _ (fun u => amountU b w u != 0) (amountU b w) 0 (fun g i hi => ?_) (fun g => ?_) N (by omega)
  · obtain ⟨h2, h3⟩ := at_of_knows hk hi
    unfold impl_ClaimCode_3r
    simp only [dlt hi, dge, gAt hi, cond_true, wrS (show i ≤ 1000000000000000000 by omega)]
    rw [ob_eq (implAt hN hb.2.1.1 _), decide_eq_true h2, decide_eq_true h3]
    simp only [cond_true, show b.2.1.getD (atB b w.2.2.2.1[i].1).toNat dSpot = spotAt b w.2.2.2.1[i].1 from rfl]
    unfold amountU
    cases w.2.2.2.1[i].2.1 == 1 <;> cases decide ((spotAt b w.2.2.2.1[i].1).2.2.1 < w.2.2.2.1[i].2.2) <;> cases w.2.2.2.1[i].2.1 == 2 <;> cases decide (IntKind.i64.wrap ((spotAt b w.2.2.2.1[i].1).2.2.2.1 + w.2.2.2.1[i].2.2) > (spotAt b w.2.2.2.1[i].1).2.1) <;> cases w.2.1 == 2 <;> cases decide ((spotAt b w.2.2.2.1[i].1).2.2.2.1 > 0) <;> rfl
  · unfold impl_ClaimCode_3r
    rw [dnlt]; rfl

theorem l3Stuffs {N : Nat} (hN : lim < N) {b : Book} {w : Want} (hb : smB b) (hw : smW w) (hk : knowsB b w = true) : spec_l3Stuffs N b w = some (stuffs b w) := by
  have hlim := lim_eq
  have h1 := hw.2.1.1
  unfold spec_l3Stuffs spec_l3Stuffsb stuffs
  rw [ob_eq (l2Clashes hN hb.1.1 hw.1.1 hw.1.1)]
  cases clash b w.2.2.1 w.2.2.1 with
  | true => rfl
  | false =>
    simp only [cond_false]
    cases hkind : w.2.1 == 1 with
    | false =>
      unfold spec_l3Stuffs_0
      rw [lp_pos _ _ (by omega)]
      unfold spec_l3Stuffs_0r
      rw [hkind]
      cases decide ((0 : Int) < (w.2.2.2.1.length : Int)) <;> rfl
    | true =>
      unfold first
      refine lp_find w.2.2.2.1 _ (fun u => stuffU b w u != 0) (stuffU b w) 0 (fun g i hi => ?_) (fun g => ?_) N (by omega)
      · obtain ⟨h2, h3⟩ := at_of_knows hk hi
        have hs := hb.2.1.2 _ (spotAt_mem h2 h3)
        unfold spec_l3Stuffs_0r
        rw [hkind]
        simp only [dlt hi, dge, gAt hi, cond_true, wrS (show i ≤ 1000000000000000000 by omega)]
        rw [ob_eq (l2Spot hN hb.2.1.1 _), decide_eq_true h2, decide_eq_true h3]
        simp only [cond_true, show b.2.1.getD (atB b w.2.2.2.1[i].1).toNat dSpot = spotAt b w.2.2.2.1[i].1 from rfl]
        simp only [ob_eq (l1All hN hs.2.1 hw.1.1), ob_eq (l2Clashes hN hb.1.1 hw.1.1 hs.2.1), ob_eq (l3Union hN hs.2.1 hw.1.1), bneI]
        unfold stuffU
        cases w.2.2.2.1[i].2.1 == 2 <;> cases (spotAt b w.2.2.2.1[i].1).2.2.2.2.all (fun x => w.2.2.1.contains x) <;> cases clash b w.2.2.1 (spotAt b w.2.2.2.1[i].1).2.2.2.2 <;> cases decide ((unionN (spotAt b w.2.2.2.1[i].1).2.2.2.2 w.2.2.1 : Int) > 8) <;> rfl
      · unfold spec_l3Stuffs_0r
        rw [dnlt]; rfl

theorem implStuffs {N : Nat} (hN : lim < N) {b : Book} {w : Want} (hb : smB b) (hw : smW w) (hk : knowsB b w = true) (c : Bool) (hd : ∀ s ∈ b.2.1, s.2.2.2.2.Nodup) (hdw : w.2.2.1.Nodup) :
    impl_ClaimCode_1 N b (c, w) (w.2.2.2.1.length : Int) N 0 = some (bif (bif w.2.1 == 1 then first (stuffU b w) w.2.2.2.1 else 0) != 0 then (bif w.2.1 == 1 then first (stuffU b w) w.2.2.2.1 else 0) else amounts b w) := by
  have hlim := lim_eq
  have h1 := hw.2.1.1
  unfold impl_ClaimCode_1
  cases hkind : w.2.1 == 1 with
  | false =>
    rw [lp_pos _ _ (by omega)]
    unfold impl_ClaimCode_1r
    have e0 : Int.toNat (0 : Int) = 0 := rfl
    simp only [bneI, hkind, Bool.not_false, cond_true, implAmounts hN hb hw hk c]
    cases w.2.2.2.1 with
    | nil => rfl
    | cons u us =>
      rw [show decide ((0 : Int) < ((u :: us).length : Int)) = true from decide_eq_true (by simp only [List.length_cons]; omega)]
      rfl
  | true =>
    simp only [cond_true]
    rw [← first_getD]
    refine lp_find w.2.2.2.1 _ (fun u => stuffU b w u != 0) (stuffU b w) (amounts b w) (fun g i hi => ?_) (fun g => ?_) N (by omega)
    · obtain ⟨h2, h3⟩ := at_of_knows hk hi
      have hs := hb.2.1.2 _ (spotAt_mem h2 h3)
      unfold impl_ClaimCode_1r
      simp only [bneI, hkind, Bool.not_true, cond_false, dlt hi, dge, gAt hi, cond_true, wrS (show i ≤ 1000000000000000000 by omega)]
      rw [ob_eq (implAt hN hb.2.1.1 _), decide_eq_true h2, decide_eq_true h3]
      simp only [cond_true, show b.2.1.getD (atB b w.2.2.2.1[i].1).toNat dSpot = spotAt b w.2.2.2.1[i].1 from rfl]
      simp only [ob_eq (implWithin hN hs.2.1 hw.1.1), ob_eq (implFoes hN hb.1.1 hs.2.1 hw.1.1), ob_eq (implBoth (N := N) hs.2.1 hw.1.1), union_eq (hd _ (spotAt_mem h2 h3)) hdw]
      rw [clash_comm b (spotAt b w.2.2.2.1[i].1).2.2.2.2 w.2.2.1]
      unfold stuffU
      cases w.2.2.2.1[i].2.1 == 2 <;> cases (spotAt b w.2.2.2.1[i].1).2.2.2.2.all (fun x => w.2.2.1.contains x) <;> cases clash b w.2.2.1 (spotAt b w.2.2.2.1[i].1).2.2.2.2 <;> cases decide ((unionN (spotAt b w.2.2.2.1[i].1).2.2.2.2 w.2.2.1 : Int) > 8) <;> rfl
    · unfold impl_ClaimCode_1r
      rw [dnlt]
      exact implAmounts hN hb hw hk c

end Go.MC

/- ClaimCode, whole. -/
set_option linter.unusedVariables false
set_option linter.unusedSimpArgs false
namespace Go.MC
open Go.MC.F

/-- A search with a want caught. -/
theorem lp_idxW {α : Type} (l : List α) (rd : (Int → Int → Int → List Txt → List Use → List Txt → List Txt → Option (Int × Want)) → Int → Int → Int → List Txt → List Use → List Txt → List Txt → Option (Int × Want)) (p : α → Bool) (c : Want)
    (hstep : ∀ (g : Int → Int → Int → List Txt → List Use → List Txt → List Txt → Option (Int × Want)) (i : Nat) (h : i < l.length), rd g (i : Int) c.1 c.2.1 c.2.2.1 c.2.2.2.1 c.2.2.2.2.1 c.2.2.2.2.2 = bif p l[i] then some ((i : Int), c) else g ((i + 1 : Nat) : Int) c.1 c.2.1 c.2.2.1 c.2.2.2.1 c.2.2.2.2.1 c.2.2.2.2.2)
    (hend : ∀ (g : Int → Int → Int → List Txt → List Use → List Txt → List Txt → Option (Int × Want)), rd g (l.length : Int) c.1 c.2.1 c.2.2.1 c.2.2.2.1 c.2.2.2.2.1 c.2.2.2.2.2 = some (-1, c)) (N : Nat) (hN : l.length < N) :
    lp (fun _ _ _ _ _ _ _ => none) rd N 0 c.1 c.2.1 c.2.2.1 c.2.2.2.1 c.2.2.2.2.1 c.2.2.2.2.2 = some (idxB p 0 l, c) := by
  have := lp_walk l (fun (g : Int → Int → Int → List Txt → List Use → List Txt → List Txt → Option (Int × Want)) i (d : Want) => g (i : Int) d.1 d.2.1 d.2.2.1 d.2.2.2.1 d.2.2.2.2.1 d.2.2.2.2.2) (fun _ _ _ _ _ _ _ => none) rd (fun i d x => bif p x then .inr (some ((i : Int), d)) else .inl d) (fun d => some (-1, d)) (fun _ d => d = c)
    (fun g i st h hi => ⟨by
      subst hi
      rw [hstep g i h]
      cases p l[i] <;> rfl, fun st' hs => by
      subst hi
      cases hp : p l[i] with
      | true => rw [hp] at hs; cases hs
      | false => rw [hp] at hs; cases hs; rfl⟩) (fun g d hd => by subst hd; exact hend g) N hN c rfl
  refine this.trans ?_
  have : ∀ (l : List α) i, outW (fun d => some (-1, d)) (walkL (fun i (d : Want) x => bif p x then Sum.inr (some ((i : Int), d)) else Sum.inl d) i l c) = some (idxB p i l, c) := by
    intro l
    induction l with
    | nil => intro i; rfl
    | cons x xs ih =>
      intro i
      simp only [walkL, idxB]
      cases p x with
      | false => simpa using ih (i + 1)
      | true => rfl
  exact this l 0

theorem implShares {N : Nat} (hN : lim < N) {b : Book} {w : Want} (hb : smB b) (hw : smW w) : slices_ContainsFunc_ClaimPart__impl_ClaimCode_c1 N b.2.2.2.1 w = some (b.2.2.2.1.any fun p => share p.1 w, w) := by
  have hlim := lim_eq
  have hlp := hb.2.2.2.1
  unfold slices_ContainsFunc_ClaimPart__impl_ClaimCode_c1
  have h : slices_IndexFunc_ClaimPart__impl_ClaimCode_c1 N b.2.2.2.1 w = some (idxB (fun p : Part => share p.1 w) 0 b.2.2.2.1, w) := by
    unfold slices_IndexFunc_ClaimPart__impl_ClaimCode_c1 slices_IndexFunc_ClaimPart__impl_ClaimCode_c1b
    refine lp_idxW b.2.2.2.1 _ (fun p : Part => share p.1 w) w (fun g i hi => ?_) (fun g => ?_) N (by omega)
    · unfold slices_IndexFunc_ClaimPart__impl_ClaimCode_c1_0r
      simp only [dlt hi, dge, gAt hi, cond_true, wrS (show i ≤ 1000000000000000000 by omega)]
      have h1 : impl_ClaimCode_c1 N b.2.2.2.1[i] (w.1, w.2.1, w.2.2.1, w.2.2.2.1, w.2.2.2.2.1, w.2.2.2.2.2) = some (share b.2.2.2.1[i].1 w, w) := by
        show impl_ClaimCode_c1 N b.2.2.2.1[i] w = _
        unfold impl_ClaimCode_c1
        rw [ob_eq (implShare hN (hb.2.2.2.2 _ (List.getElem_mem hi)) hw)]
      rw [ob_eq h1]
    · unfold slices_IndexFunc_ClaimPart__impl_ClaimCode_c1_0r
      rw [dnlt]; rfl
  rw [ob_eq h, idxB_nonneg]
theorem implCrosses {N : Nat} (hN : lim < N) {b : Book} {w : Want} (hb : smB b) (hw : smW w) : slices_ContainsFunc_ClaimPart__impl_ClaimCode_c2 N b.2.2.2.1 w = some (b.2.2.2.1.any fun p => cross p.1 w, w) := by
  have hlim := lim_eq
  have hlp := hb.2.2.2.1
  unfold slices_ContainsFunc_ClaimPart__impl_ClaimCode_c2
  have h : slices_IndexFunc_ClaimPart__impl_ClaimCode_c2 N b.2.2.2.1 w = some (idxB (fun p : Part => cross p.1 w) 0 b.2.2.2.1, w) := by
    unfold slices_IndexFunc_ClaimPart__impl_ClaimCode_c2 slices_IndexFunc_ClaimPart__impl_ClaimCode_c2b
    refine lp_idxW b.2.2.2.1 _ (fun p : Part => cross p.1 w) w (fun g i hi => ?_) (fun g => ?_) N (by omega)
    · unfold slices_IndexFunc_ClaimPart__impl_ClaimCode_c2_0r
      simp only [dlt hi, dge, gAt hi, cond_true, wrS (show i ≤ 1000000000000000000 by omega)]
      have h1 : impl_ClaimCode_c2 N b.2.2.2.1[i] (w.1, w.2.1, w.2.2.1, w.2.2.2.1, w.2.2.2.2.1, w.2.2.2.2.2) = some (cross b.2.2.2.1[i].1 w, w) := by
        show impl_ClaimCode_c2 N b.2.2.2.1[i] w = _
        unfold impl_ClaimCode_c2
        rw [ob_eq (implCross hN (hb.2.2.2.2 _ (List.getElem_mem hi)) hw)]
      rw [ob_eq h1]
    · unfold slices_IndexFunc_ClaimPart__impl_ClaimCode_c2_0r
      rw [dnlt]; rfl
  rw [ob_eq h, idxB_nonneg]

def partG (b : Book) (n : Int) : Part := b.2.2.2.1.getD (partAt b n).toNat dPart
/-- What granting would answer. -/
def codeB (b : Book) (w : Want) : Int :=
  bif !bookOk b then 1 else bif !wantOk w then 2 else bif !knowsB b w then 2 else
  bif decide (partAt b w.1 ≥ 0) then (bif sameW (partG b w.1).1 w then 0 else 3) else
  bif decide (w.1 ≤ b.2.2.2.2) then 4 else bif decide ((b.2.2.2.1.length : Int) ≥ 6) then 5 else
  bif b.2.2.2.1.any (fun p => share p.1 w) then 6 else bif b.2.2.2.1.any (fun p => cross p.1 w) then 7 else
  bif stuffs b w != 0 then stuffs b w else amounts b w

theorem part_lt {b : Book} {n : Int} (h : 0 ≤ partAt b n) : partAt b n < b.2.2.2.1.length := by
  have := idxB_lt (fun p : Part => p.1.1 == n) b.2.2.2.1 0 h
  unfold partAt
  omega
theorem partG_mem {b : Book} {n : Int} (h : 0 ≤ partAt b n) : partG b n ∈ b.2.2.2.1 := by
  have := part_lt h
  exact getD_mem (by omega) _

theorem specCode {N : Nat} (hN : lim < N) {b : Book} {w : Want} (hb : smB b) (hw : smW w) : spec_ClaimCode N b w = some (codeB b w) := by
  have hlim := lim_eq
  have hlp := hb.2.2.2.1
  unfold spec_ClaimCode spec_ClaimCodeb codeB
  rw [ob_eq (specBookOk hN hb)]
  cases hbk : bookOk b with
  | false => rfl
  | true =>
    simp only [Bool.not_true, cond_false]
    rw [ob_eq (specWantOk hN hw)]
    cases wantOk w with
    | false => rfl
    | true =>
      simp only [Bool.not_true, cond_false]
      rw [ob_eq (l2Knows hN hb hw)]
      cases hk : knowsB b w with
      | false => rfl
      | true =>
        simp only [Bool.not_true, cond_false]
        rw [ob_eq (l2Part hN hb w.1)]
        cases hp : decide (partAt b w.1 ≥ 0) with
        | true =>
          have hp' : 0 ≤ partAt b w.1 := of_decide_eq_true hp
          rw [show decide (partAt b w.1 < (b.2.2.2.1.length : Int)) = true from decide_eq_true (part_lt hp')]
          simp only [cond_true]
          rw [ob_eq (show spec_l1Same N (b.2.2.2.1.getD (partAt b w.1).toNat dPart).1 w = _ from l1Same hN (hb.2.2.2.2 _ (partG_mem hp')))]
          show (bif sameW (partG b w.1).1 w then some 0 else some 3) = _
          cases sameW (partG b w.1).1 w <;> rfl
        | false =>
          simp only [cond_false]
          cases decide (w.1 ≤ b.2.2.2.2) with
          | true => rfl
          | false =>
            simp only [cond_false]
            cases decide ((b.2.2.2.1.length : Int) ≥ 6) with
            | true => rfl
            | false =>
              simp only [cond_false]
              have k2 : spec_ClaimCode_2 N b w N 0 = some (bif b.2.2.2.1.any (fun p => cross p.1 w) then 7 else bif stuffs b w != 0 then stuffs b w else amounts b w) := by
                refine (lp_allI b.2.2.2.1 _ (fun _ p => !cross p.1 w) (some 7) (some (bif stuffs b w != 0 then stuffs b w else amounts b w)) (fun g i hi => ?_) (fun g => ?_) N (by omega)).trans ?_
                · unfold spec_ClaimCode_2r
                  simp only [dlt hi, dge, gAt hi, cond_true, wrS (show i ≤ 1000000000000000000 by omega)]
                  rw [ob_eq (l2Crosses hN hw (hb.2.2.2.2 _ (List.getElem_mem hi))), cross_comm w]
                  cases cross b.2.2.2.1[i].1 w <;> rfl
                · unfold spec_ClaimCode_2r
                  rw [dnlt, cond_false, ob_eq (l3Stuffs hN hb hw hk), ob_eq (l3Amounts hN hb hw hk)]
                  cases stuffs b w != 0 <;> rfl
                · rw [allI_all, not_any]
                  cases b.2.2.2.1.any fun p => cross p.1 w <;> rfl
              refine (lp_allI b.2.2.2.1 _ (fun _ p => !share p.1 w) (some 6) (some (bif b.2.2.2.1.any (fun p => cross p.1 w) then 7 else bif stuffs b w != 0 then stuffs b w else amounts b w)) (fun g i hi => ?_) (fun g => ?_) N (by omega)).trans ?_
              · have hpi := hb.2.2.2.2 _ (List.getElem_mem hi)
                unfold spec_ClaimCode_0r
                simp only [dlt hi, dge, gAt hi, cond_true, wrS (show i ≤ 1000000000000000000 by omega)]
                rw [ob_eq (l2Uses hN hw), ob_eq (l2Uses hN hpi), ob_eq (l2Share hN hw hpi), share_comm w]
                cases share b.2.2.2.1[i].1 w <;> rfl
              · unfold spec_ClaimCode_0r
                rw [dnlt, cond_false]
                exact k2
              · rw [allI_all, not_any]
                cases b.2.2.2.1.any fun p => share p.1 w <;> rfl

theorem may_nodup {b : Book} (h : bookOk b = true) : ∀ s ∈ b.2.1, s.2.2.2.2.Nodup := by
  intro s hs
  simp only [bookOk, spotsOk, Bool.and_eq_true] at h
  obtain ⟨i, hi⟩ := List.getElem?_of_mem hs
  have := allI_iff.1 h.2.2.2.1.2 i s hi
  simp only [spotI, spotOk, Bool.and_eq_true] at this
  exact nms_nodup this.1.2.2.2.2.1
theorem stuff_nodup {w : Want} (h : wantOk w = true) : w.2.2.1.Nodup := by
  simp only [wantOk, Bool.and_eq_true] at h
  exact nms_nodup h.2.2.2.2.2.2.2.2.1
theorem parts_six {b : Book} (h : bookOk b = true) : ((b.2.2.2.1.length : Int) == 6) = decide ((b.2.2.2.1.length : Int) ≥ 6) := by
  simp only [bookOk, partsOk, Bool.and_eq_true] at h
  have h1 : ¬ ((b.2.2.2.1.length : Int) > 6) := by simpa using h.2.2.2.2.1
  by_cases h6 : (b.2.2.2.1.length : Int) = 6
  · rw [h6]; rfl
  · rw [beq_eq_false_iff_ne.2 h6, decide_eq_false (by omega)]

theorem implCode {N : Nat} (hN : lim < N) {b : Book} {w : Want} (hb : smB b) (hw : smW w) : impl_ClaimCode N b w = some (codeB b w) := by
  have hlim := lim_eq
  have hlp := hb.2.2.2.1
  unfold impl_ClaimCode impl_ClaimCodeb codeB
  rw [ob_eq (implBookOk hN hb)]
  cases hbk : bookOk b with
  | false => rfl
  | true =>
    simp only [Bool.not_true, cond_false]
    rw [ob_eq (implWantOk hN hw)]
    cases hwk : wantOk w with
    | false => rfl
    | true =>
      simp only [Bool.not_true, cond_false]
      rw [ob_eq (implKnows hN hb hw)]
      cases hk : knowsB b w with
      | false => rfl
      | true =>
        simp only [Bool.not_true, cond_false]
        rw [ob_eq (implPart hN hb w.1)]
        cases hp : decide (partAt b w.1 ≥ 0) with
        | true =>
          have hp' : 0 ≤ partAt b w.1 := of_decide_eq_true hp
          rw [show decide (partAt b w.1 < (b.2.2.2.1.length : Int)) = true from decide_eq_true (part_lt hp')]
          simp only [cond_true]
          rw [ob_eq (show impl_same N (b.2.2.2.1.getD (partAt b w.1).toNat dPart).1 w = _ from implSame hN (hb.2.2.2.2 _ (partG_mem hp')))]
          show (bif sameW (partG b w.1).1 w then some 0 else some 3) = _
          cases sameW (partG b w.1).1 w <;> rfl
        | false =>
          simp only [cond_false]
          cases decide (w.1 ≤ b.2.2.2.2) with
          | true => rfl
          | false =>
            simp only [cond_false]
            rw [parts_six hbk]
            cases decide ((b.2.2.2.1.length : Int) ≥ 6) with
            | true => rfl
            | false =>
              simp only [cond_false]
              rw [ob_eq (implShares hN hb hw)]
              cases b.2.2.2.1.any fun p => share p.1 w with
              | true => rfl
              | false =>
                simp only [cond_false]
                rw [ob_eq (implCrosses hN hb hw)]
                cases b.2.2.2.1.any fun p => cross p.1 w with
                | true => rfl
                | false =>
                  simp only [cond_false]
                  rw [ob_eq (implFoes hN hb.1.1 hw.1.1 hw.1.1)]
                  unfold stuffs
                  cases clash b w.2.2.1 w.2.2.1 with
                  | true => rfl
                  | false => exact implStuffs hN hb hw hk false (may_nodup hbk) (stuff_nodup hwk)

/-- The law. -/
theorem lawCode {N : Nat} (hN : lim < N) {b : Book} {w : Want} (hb : fitB b) (hw : fitW w) : laws_FnExactClaimCode N b w = some true := by
  obtain ⟨r, h1, h2, h3, h4⟩ := szClaimBook hN hb (left := 1048576) (by omega) (by omega)
  unfold laws_FnExactClaimCode
  rw [ob_eq h1]
  by_cases hn : r < 0
  · rw [decide_eq_true hn]; rfl
  · rw [decide_eq_false hn]
    have hs := h4 (by omega)
    obtain ⟨r2, h5, h6, h7, h8⟩ := szClaimWant hN hw (left := r) (by omega) (by omega)
    rw [cond_false, ob_eq h5]
    by_cases hn2 : r2 < 0
    · rw [decide_eq_true hn2]; rfl
    · rw [decide_eq_false hn2]
      have hs2 := h8 (by omega)
      simp only [cond_false, ob_eq (toClaimBook hN hs), ob_eq (toClaimWant hN hs2), ob_eq (specCode hN hs hs2), ob_eq (implCode hN hs hs2), ob_eq (eqClaimBook hN hs), ob_eq (eqClaimWant hN hs2), bne_self_eq_false, Bool.not_true]
end Go.MC

/- The law FnExactClaimCode returns true on every input: what the program tells is what the document tells, by the contracts of all functions that it reaches and a proof in plain Lean. There is no condition. -/
namespace Go.Proofs.YtaihjhaabnfenaaGreat.fnExactClaimCode
open Go.ChangeShapes Go.WideShapes Go.ChangeAt Go.RowKit Go.MC
open Go.ChangeMaps (open_string shut_string)
set_option linter.unusedVariables false
theorem own : ownKnob Tryz.prog.godebug = none := by kernel_rfl
theorem laidOut : laidOutB Tryz.prog = true := by kernel_rfl
set_option maxRecDepth 100000 in
theorem lifted (os : Os) (started : os.Started) (H : Type) (enc : TypeId × Value → H) :
    ReturnsInHanded {} Tryz.checked os 7 .any (Rows.fnExactClaimCodeSpec.pre6 enc Tryz.prog Tryz.f7 Rows.fnExactClaimCodeRow.domain false) (Rows.fnExactClaimCodeSpec.post enc Tryz.prog Tryz.f7 false true false false) := by
  refine returnsInHanded_of_change_sized (C := Tryz.checked) own started (by kernel_rfl) Tryz.func7
    (ChangeSpec.witness6 (enc := enc) (C := Tryz.checked) false ⟨#[], #[.agg #[.slice none 0 0, .slice none 0 0, .slice none 0 0, .slice none 0 0, .int .i64 0], .agg #[.int .i64 0, .int .i64 0, .slice none 0 0, .slice none 0 0, .slice none 0 0, .slice none 0 0]], []⟩ 8 (by kernel_rfl) (by kernel_rfl) (by kernel_rfl) (by kernel_rfl)) ?_
  intro W base args ds gs before hval0 hW hcnd hsz0 _
  have hsz : (DataW.weightsEach Tryz.prog (Tryz.f7.params.toList ++ Rows.fnExactClaimCodeSpec.plain.varTypes Tryz.prog) (ds ++ gs)).all (· ≤ reachBytes) = true := hsz0
  have hval : ∀ (j : Nat) t v, Tryz.f7.params[j]? = some t → args[j]? = some v → Value.okWide Tryz.prog W .any base t v := hval0
  have hW' := hW
  obtain ⟨p, q, hA0, hV, rfl, hfz, hnd⟩ := hW
  have hA : DataW.TrodAll enc Tryz.prog W 0 (fun _ => true) true Tryz.f7.params.toList args.toList ds p := hA0
  rw [Tryz.params7] at hA hval hsz
  obtain ⟨v0, vs0, d0, ds0, p0, q0, hargs, rfl, rfl, h0, r0⟩ := trodAll_cons hA
  obtain ⟨v1, vs1, d1, ds1, p1, q1, rfl, rfl, rfl, h1, r1⟩ := trodAll_cons r0
  obtain ⟨rfl, rfl, rfl⟩ := trodAll_nil r1
  obtain rfl : args = #[v0, v1] := by cases args; simp_all
  obtain ⟨rfl, rfl⟩ := trodVars_none hV
  have lt0 : ∀ x ∈ p0, x.block < W.heap.size := by obtain ⟨m, hm⟩ := h0; exact DataW.trod_lt m _ _ _ hm
  obtain ⟨x0, cs0, hx0, hs0⟩ := arg_rd (n := 12) (t := tBook) (by kernel_rfl) (hval 0 56 v0 rfl rfl) h0 hsz (j := 0) rfl rfl
  have lt1 : ∀ x ∈ p1, x.block < W.heap.size := by obtain ⟨m, hm⟩ := h1; exact DataW.trod_lt m _ _ _ hm
  obtain ⟨x1, cs1, hx1, hs1⟩ := arg_rd (n := 12) (t := tWant) (by kernel_rfl) (hval 1 73 v1 rfl rfl) h1 hsz (j := 1) rfl rfl
  clear hA0 hval0 hsz0 hsz
  have law : F.laws_FnExactClaimCode (lim + 1) x0 x1 = some true := lawCode (N := lim + 1) (Nat.lt_succ_self _) (fit_book hx0.fit) (fit_want hx1.fit)
  have hout := summ_out2 (f := F.laws_FnExactClaimCode (lim + 1)) law (rs := [.d .bool false]) (ts := [.bool]) (fz := false) (a := true) (b := true) (t := tBook) (u := tWant) (x := x0) (y := x1) (r := true)
  refine (law_calls (con_laws_FnExactClaimCode (lim + 1)) (args := [v0, v1]) (ds := [⟨tBook, x0⟩, ⟨tWant, x1⟩]) ⟨v0, [v1], [v1], rfl, rfl, ⟨v1, [], [], rfl, rfl, ⟨rfl, rfl⟩⟩⟩
    ⟨v0, [v1], x0, [⟨tWant, x1⟩], cs0, rfl, rfl, hx0, hs0, ⟨v1, [], x1, [], cs1, rfl, rfl, hx1, hs1, ⟨rfl, rfl, rfl⟩⟩⟩ hout.1 hout.2 rfl).mono fun e W' ⟨he, bel⟩ => ?_
  subst he
  exact ⟨_, rfl, _, _, _, [], _, [], hW', trodAll_mk1 (shut_bool Tryz.underlying4 _), (trodAll_cons_mk (Below.trod laidOut (by kernel_rfl) (of_decide_eq_true (by kernel_rfl)) h0 bel lt0) (trodAll_cons_mk (Below.trod laidOut (by kernel_rfl) (of_decide_eq_true (by kernel_rfl)) h1 bel lt1) trodAll_mk0)), rfl, bel.frame _, fun h => by cases h⟩
theorem over : Rows.fnExactClaimCodeRow.holds Tryz.pinned (OpenSpec.ofChange Rows.fnExactClaimCodeSpec) :=
  OpenClaim.holds_of_wide 7 Tryz.f7 rfl rfl rfl rfl rfl rfl rfl ⟨rfl, rfl, rfl, rfl, rfl⟩ rfl rfl rfl rfl rfl (by kernel_rfl) Tryz.func7 (by kernel_rfl)
    (of_decide_eq_true (by kernel_rfl)) (by unfold Func.isWrapper; first | (rw [if_pos (by decide +kernel)]; kernel_rfl) | (rw [if_neg (by decide +kernel)]; exact ⟨rfl, rfl⟩))
    (fun os started H enc _ => lifted os started H enc)
theorem proved : Rows.FnExactClaimCodeSaid := over
#print axioms proved
end Go.Proofs.YtaihjhaabnfenaaGreat.fnExactClaimCode
namespace Go.Proofs.YtaihjhaabnfenaaGreat
/-- The row, under a short name, for the claim. -/
theorem fnExactClaimCode_holds : Rows.FnExactClaimCodeSaid := fnExactClaimCode.proved
end Go.Proofs.YtaihjhaabnfenaaGreat


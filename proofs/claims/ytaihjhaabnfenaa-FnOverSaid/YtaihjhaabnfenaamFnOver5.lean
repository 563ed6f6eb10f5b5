/- The law FnOver returns true on every input: what the program tells is what the document tells, by the contracts of all functions that it reaches and a proof in plain Lean. There is no condition. -/
import Derived.Test.YtaihjhaabnfenaamFnOver4
import Derived.Test.YtaihjhaabnfenaamFnOver2
import Derived.Test.YtaihjhaabnfenaaRows
import Derived.WalkKit
import Derived.ProofKit
import Derived.OpenShut
import Derived.ShutString
import Derived.ChangeOld
import Derived.Below
import Derived.SizedLaws
import Derived.Carry
set_option linter.unusedVariables false
set_option linter.unusedSimpArgs false
namespace Go.MC
open Go.MC.F
def spotOk (b : Book) (s : Spot) : Bool := nmOk s.1 && (inB s.2.1 0 1000 && (inB s.2.2.1 0 s.2.2.2.1 && (!decide (s.2.2.2.1 > s.2.1) && (nmsOk s.2.2.2.2 8 && !clash b s.2.2.2.2 s.2.2.2.2))))
def spotI (b : Book) (i : Nat) (s : Spot) : Bool := spotOk b s && (i == 0 || Op.bytesLess (b.2.1.getD (i - 1) dSpot).1 s.1)
def spotsOk (b : Book) : Bool := !decide ((b.2.1.length : Int) > 8) && allI (spotI b) 0 b.2.1
theorem l2SpotOk {N : Nat} (hN : lim < N) {b : Book} {s : Spot} (hb : b.1.length ≤ 1048576) (hs : smS s) : f_50 N b s = some (spotOk b s) := by
  have hlim := lim_eq
  have h1 := hs.2.1
  unfold f_50 f_50b spotOk
  rw [ob_eq (l1NameOk hN _)]
  simp only [ob_eq (l1In s.2.1 0 1000), ob_eq (l1In s.2.2.1 0 s.2.2.2.1), ob_eq (l1NamesOk hN (show s.2.2.2.2.length ≤ lim by omega) 8)]
  have loop : f_50_0 N b s N 0 = some (!clash b s.2.2.2.2 s.2.2.2.2) := by
    refine (lp_allI s.2.2.2.2 _ (fun _ x => !(s.2.2.2.2.any fun v => isFoe b x v)) (some false) (some true) (fun g i hi => ?_) (fun g => ?_) N (by omega)).trans ?_
    · unfold f_50_0r
      simp only [dlt hi, dge, gAt hi, cond_true, wrS (show i ≤ 1000000000000000000 by omega)]
      rw [ob_eq (l2Clash hN hb _ h1)]
      cases s.2.2.2.2.any fun v => isFoe b s.2.2.2.2[i] v <;> rfl
    · unfold f_50_0r
      rw [dnlt]; rfl
    · rw [allI_all, not_any, clash_eq]
      cases s.2.2.2.2.any fun u => s.2.2.2.2.any fun v => isFoe b u v <;> rfl
  rw [loop]
  cases nmOk s.1 <;> cases inB s.2.1 0 1000 <;> cases inB s.2.2.1 0 s.2.2.2.1 <;> cases decide (s.2.2.2.1 > s.2.1) <;> cases nmsOk s.2.2.2.2 8 <;> rfl
def share (a b : Want) : Bool := a.2.2.2.1.any fun u => b.2.2.2.1.any fun v => u.1 == v.1
def cross (a b : Want) : Bool := (a.2.2.2.2.1.any fun x => b.2.2.2.2.1.contains x) || ((a.2.2.2.2.1.any fun x => b.2.2.2.2.2.contains x) || (a.2.2.2.2.2.any fun x => b.2.2.2.2.1.contains x))
theorem lp_app {α β : Type} {l : List α} {rd : (Int → List β → Option (List β)) → Int → List β → Option (List β)} (f : α → β)
    (hstep : ∀ (g : Int → List β → Option (List β)) (i : Nat) (out : List β) (h : i < l.length), out.length ≤ i → rd g (i : Int) out = g ((i + 1 : Nat) : Int) (out ++ [f l[i]]))
    (hend : ∀ (g : Int → List β → Option (List β)) (out : List β), rd g (l.length : Int) out = some out) {N : Nat} (hN : l.length < N) : lp (fun _ _ => none) rd N 0 [] = some (l.map f) := by
  have := lp_walk l (fun (g : Int → List β → Option (List β)) i (d : List β) => g (i : Int) d) (fun _ _ => none) rd (fun i d x => .inl (d ++ [f x])) (fun d => some d) (fun i d => d.length ≤ i)
    (fun g i st h hi => ⟨hstep g i st h hi, fun st' hs => by cases hs; simp; omega⟩) (fun g d hd => hend g d) N hN [] (by simp)
  refine this.trans ?_
  have : ∀ (l : List α) i (d : List β), outW (fun d => some d) (walkL (fun i (d : List β) x => (Sum.inl (d ++ [f x]) : List β ⊕ Option (List β))) i l d) = some (d ++ l.map f) := by
    intro l
    induction l with
    | nil => intro i d; simp [walkL, outW]
    | cons x xs ih =>
      intro i d
      simp only [walkL]
      rw [ih (i + 1) (d ++ [f x])]
      simp
  rw [this l 0 []]; rfl
theorem l2Uses {N : Nat} (hN : lim < N) {w : Want} (hw : smW w) : f_75 N w = some (w.2.2.2.1.map (·.1)) := by
  have hlim := lim_eq
  have h1 := hw.2.1.1
  unfold f_75 f_75b
  refine lp_app (l := w.2.2.2.1) (fun u : Use => u.1) (fun g i out hi ho => ?_) (fun g out => ?_) (by omega)
  · unfold f_75_0r
    simp only [dlt hi, dge, gAt hi, cond_true, wrS (show i ≤ 1000000000000000000 by omega)]
    have : decide ((out.length + [w.2.2.2.1[i].1].length) * 16 ≤ lim) = true := decide_eq_true (by simp; omega)
    simp only [this, cond_true]
  · unfold f_75_0r
    rw [dnlt]; rfl
theorem share_eq (a b : Want) : ((a.2.2.2.1.map (·.1)).any fun x => (b.2.2.2.1.map (·.1)).contains x) = share a b := by
  unfold share
  rw [List.any_map]
  congr 1
  funext u
  simp only [Function.comp, List.contains_eq_any_beq, List.any_map]
  rfl
theorem l2Share {N : Nat} (hN : lim < N) {a b : Want} (ha : smW a) (hb : smW b) : f_57 N (a.2.2.2.1.map (·.1)) (b.2.2.2.1.map (·.1)) = some (share a b) := by
  have hlim := lim_eq
  have h1 := ha.2.1.1
  have h2 := hb.2.1.1
  rw [l1Share hN (by simp; omega) (by simp; omega), share_eq]
theorem l2Crosses {N : Nat} (hN : lim < N) {a b : Want} (ha : smW a) (hb : smW b) : f_40 N a b = some (cross a b) := by
  have hlim := lim_eq
  have h1 : a.2.2.2.2.1.length ≤ 1048576 := ha.2.2.1.1
  have h2 : a.2.2.2.2.2.length ≤ 1048576 := ha.2.2.2.1
  have h3 : b.2.2.2.2.1.length ≤ 1048576 := hb.2.2.1.1
  have h4 : b.2.2.2.2.2.length ≤ 1048576 := hb.2.2.2.1
  unfold f_40 cross
  rw [ob_eq (l1Share hN (show a.2.2.2.2.1.length ≤ lim by omega) (show b.2.2.2.2.1.length ≤ lim by omega))]
  simp only [ob_eq (l1Share hN (show a.2.2.2.2.1.length ≤ lim by omega) (show b.2.2.2.2.2.length ≤ lim by omega)), ob_eq (l1Share hN (show a.2.2.2.2.2.length ≤ lim by omega) (show b.2.2.2.2.1.length ≤ lim by omega))]
  cases (a.2.2.2.2.1.any fun x => b.2.2.2.2.1.contains x) <;> cases (a.2.2.2.2.1.any fun x => b.2.2.2.2.2.contains x) <;> rfl
theorem implCross {N : Nat} (hN : lim < N) {a b : Want} (ha : smW a) (hb : smW b) : f_82 N a b = some (cross a b) := by
  have hlim := lim_eq
  have h1 : a.2.2.2.2.1.length ≤ 1048576 := ha.2.2.1.1
  have h2 : a.2.2.2.2.2.length ≤ 1048576 := ha.2.2.2.1
  have h3 : b.2.2.2.2.1.length ≤ 1048576 := hb.2.2.1.1
  have h4 : b.2.2.2.2.2.length ≤ 1048576 := hb.2.2.2.1
  unfold f_82 cross
  rw [ob_eq (implCommon hN (show a.2.2.2.2.1.length ≤ lim by omega) (show b.2.2.2.2.1.length ≤ lim by omega))]
  simp only [ob_eq (implCommon hN (show a.2.2.2.2.1.length ≤ lim by omega) (show b.2.2.2.2.2.length ≤ lim by omega)), ob_eq (implCommon hN (show a.2.2.2.2.2.length ≤ lim by omega) (show b.2.2.2.2.1.length ≤ lim by omega))]
  cases (a.2.2.2.2.1.any fun x => b.2.2.2.2.1.contains x) <;> cases (a.2.2.2.2.1.any fun x => b.2.2.2.2.2.contains x) <;> rfl
theorem implShare {N : Nat} (hN : lim < N) {a b : Want} (ha : smW a) (hb : smW b) : f_84 N a b = some (share a b) := by
  have hlim := lim_eq
  have h1 := ha.2.1.1
  have h2 := hb.2.1.1
  have inner : ∀ u : Use, f_45 N u b = some (b.2.2.2.1.any fun v => u.1 == v.1, b) := by
    intro u
    unfold f_45 f_2
    have h : f_4 N b.2.2.2.1 u = some (idxB (fun v : Use => u.1 == v.1) 0 b.2.2.2.1, u) := by
      unfold f_4 f_4b
      have := lp_walk b.2.2.2.1 (fun (g : Int → Txt → Int → Int → Option (Int × Use)) i (d : Use) => g (i : Int) d.1 d.2.1 d.2.2) (fun _ _ _ _ => none) (f_4_0r N b.2.2.2.1 (b.2.2.2.1.length : Int)) (fun i d x => bif u.1 == x.1 then .inr (some ((i : Int), d)) else .inl d) (fun d => some (-1, d)) (fun _ d => d = u)
        (fun g i st h hi => ⟨by
          subst hi
          unfold f_4_0r
          simp only [dlt h, dge, gAt h, cond_true, wrS (show i ≤ 1000000000000000000 by omega)]
          rw [ob_eq (show f_26 N b.2.2.2.1[i] (st.1, st.2.1, st.2.2) = some (st.1 == b.2.2.2.1[i].1, st) from rfl)]
          cases st.1 == b.2.2.2.1[i].1 <;> rfl, fun st' hs => by
          subst hi
          cases hp : st.1 == b.2.2.2.1[i].1 with
          | true => rw [hp] at hs; cases hs
          | false => rw [hp] at hs; cases hs; rfl⟩) (fun g d hd => by
          subst hd
          unfold f_4_0r
          rw [dnlt]; rfl) N (by omega) u rfl
      refine this.trans ?_
      have : ∀ (l : List Use) i, outW (fun d => some (-1, d)) (walkL (fun i (d : Use) (x : Use) => bif u.1 == x.1 then Sum.inr (some ((i : Int), d)) else Sum.inl d) i l u) = some (idxB (fun v : Use => u.1 == v.1) i l, u) := by
        intro l
        induction l with
        | nil => intro i; rfl
        | cons x xs ih =>
          intro i
          simp only [walkL, idxB]
          cases u.1 == x.1 with
          | false => simpa using ih (i + 1)
          | true => rfl
      exact this b.2.2.2.1 0
    rw [ob_eq (a := (b.2.2.2.1.any fun v => u.1 == v.1, u)) (by rw [ob_eq h, idxB_nonneg])]
  unfold f_84 f_3 share
  have h : f_7 N a.2.2.2.1 b = some (idxB (fun u : Use => b.2.2.2.1.any fun v => u.1 == v.1) 0 a.2.2.2.1, b) := by
    unfold f_7 f_7b
    have := lp_walk a.2.2.2.1 (fun (g : Int → Int → Int → List Txt → List Use → List Txt → List Txt → Option (Int × Want)) i (d : Want) => g (i : Int) d.1 d.2.1 d.2.2.1 d.2.2.2.1 d.2.2.2.2.1 d.2.2.2.2.2) (fun _ _ _ _ _ _ _ => none) (f_7_0r N a.2.2.2.1 (a.2.2.2.1.length : Int)) (fun i d x => bif b.2.2.2.1.any (fun v => x.1 == v.1) then .inr (some ((i : Int), d)) else .inl d) (fun d => some (-1, d)) (fun _ d => d = b)
      (fun g i st h hi => ⟨by
        subst hi
        unfold f_7_0r
        simp only [dlt h, dge, gAt h, cond_true, wrS (show i ≤ 1000000000000000000 by omega)]
        rw [ob_eq (show f_45 N a.2.2.2.1[i] (st.1, st.2.1, st.2.2.1, st.2.2.2.1, st.2.2.2.2.1, st.2.2.2.2.2) = some (st.2.2.2.1.any fun v => a.2.2.2.1[i].1 == v.1, st) from inner _)]
        cases st.2.2.2.1.any fun v => a.2.2.2.1[i].1 == v.1 <;> rfl, fun st' hs => by
        subst hi
        cases hp : st.2.2.2.1.any (fun v => a.2.2.2.1[i].1 == v.1) with
        | true => rw [hp] at hs; cases hs
        | false => rw [hp] at hs; cases hs; rfl⟩) (fun g d hd => by
        subst hd
        unfold f_7_0r
        rw [dnlt]; rfl) N (by omega) b rfl
    refine this.trans ?_
    have : ∀ (l : List Use) i, outW (fun d => some (-1, d)) (walkL (fun i (d : Want) (x : Use) => bif b.2.2.2.1.any (fun v => x.1 == v.1) then Sum.inr (some ((i : Int), d)) else Sum.inl d) i l b) = some (idxB (fun u : Use => b.2.2.2.1.any fun v => u.1 == v.1) i l, b) := by
      intro l
      induction l with
      | nil => intro i; rfl
      | cons x xs ih =>
        intro i
        simp only [walkL, idxB]
        cases b.2.2.2.1.any fun v => x.1 == v.1 with
        | false => simpa using ih (i + 1)
        | true => rfl
    exact this a.2.2.2.1 0
  rw [ob_eq (a := (a.2.2.2.1.any fun u => b.2.2.2.1.any fun v => u.1 == v.1, b)) (by rw [ob_eq h, idxB_nonneg])]
def partI (b : Book) (i : Nat) (p : Part) : Bool := partOk b p && ((i == 0 || !decide ((b.2.2.2.1.getD (i - 1) dPart).1.1 ≥ p.1.1)) && (b.2.2.2.1.take i).all fun q => !share p.1 q.1 && !cross p.1 q.1)
def partsOk (b : Book) : Bool := !decide ((b.2.2.2.1.length : Int) > 6) && allI (partI b) 0 b.2.2.2.1
def bookOk (b : Book) : Bool := foesOk b && (nmsOk b.2.2.1 12 && (inB b.2.2.2.2 0 1000000 && (spotsOk b && partsOk b)))
theorem take_get {α : Type} {l : List α} {i k : Nat} (hk : k < (l.take i).length) : l[k]'(by simp at hk; omega) = (l.take i)[k] := by simp
theorem l2PartsOk {N : Nat} (hN : lim < N) {b : Book} (hb : smB b) : f_41 N b = some (partsOk b) := by
  have hlim := lim_eq
  have hlb := hb.2.2.2.1
  unfold f_41 f_41b partsOk
  cases hlen : decide ((b.2.2.2.1.length : Int) > 6) with
  | true => rfl
  | false =>
    refine (lp_allI b.2.2.2.1 _ (partI b) (some false) (some true) (fun g i hi => ?_) (fun g => ?_) N (by omega)).trans ?_
    · have hp := hb.2.2.2.2 _ (List.getElem_mem hi)
      have inner : f_41_2 N g b (i : Int) b.2.2.2.1[i].1.1 b.2.2.2.1[i].1.2.1 b.2.2.2.1[i].1.2.2.1 b.2.2.2.1[i].1.2.2.2.1 b.2.2.2.1[i].1.2.2.2.2.1 b.2.2.2.1[i].1.2.2.2.2.2 N 0 =
          bif (b.2.2.2.1.take i).all (fun q => !share b.2.2.2.1[i].1 q.1 && !cross b.2.2.2.1[i].1 q.1) then g ((i + 1 : Nat) : Int) else some false := by
        have hl : (b.2.2.2.1.take i).length = i := by simp; omega
        refine (lp_allI (b.2.2.2.1.take i) _ (fun _ q => !share b.2.2.2.1[i].1 q.1 && !cross b.2.2.2.1[i].1 q.1) (some false) (g ((i + 1 : Nat) : Int)) (fun g2 k hk => ?_) (fun g2 => ?_) N (by omega)).trans ?_
        · have hk' : k < b.2.2.2.1.length := by simp at hk; omega
          have hq := hb.2.2.2.2 _ (List.getElem_mem hk')
          have hki : k < i := by omega
          unfold f_41_2r
          simp only [dlt hki, dlt hk', dge, gAt hk', cond_true, wrS (show k ≤ 1000000000000000000 by omega)]
          rw [ob_eq (show f_75 N (b.2.2.2.1[i].1.1, b.2.2.2.1[i].1.2.1, b.2.2.2.1[i].1.2.2.1, b.2.2.2.1[i].1.2.2.2.1, b.2.2.2.1[i].1.2.2.2.2.1, b.2.2.2.1[i].1.2.2.2.2.2) = _ from l2Uses hN hp), ob_eq (l2Uses hN hq), ob_eq (l2Share hN hp hq)]
          rw [← take_get hk]
          cases share b.2.2.2.1[i].1 b.2.2.2.1[k].1 with
          | true => rfl
          | false =>
            simp only [cond_false]
            rw [ob_eq (show f_40 N (b.2.2.2.1[i].1.1, b.2.2.2.1[i].1.2.1, b.2.2.2.1[i].1.2.2.1, b.2.2.2.1[i].1.2.2.2.1, b.2.2.2.1[i].1.2.2.2.2.1, b.2.2.2.1[i].1.2.2.2.2.2) b.2.2.2.1[k].1 = _ from l2Crosses hN hp hq)]
            cases cross b.2.2.2.1[i].1 b.2.2.2.1[k].1 <;> rfl
        · unfold f_41_2r
          rw [hl, dnlt, cond_false, wrS (by omega)]
        · rw [allI_all]
      unfold f_41_0r partI
      simp only [dlt hi, dge, gAt hi, cond_true, wrS (show i ≤ 1000000000000000000 by omega), dgt0]
      rw [ob_eq (l2PartOk hN hb hp)]
      cases partOk b b.2.2.2.1[i] with
      | false => rfl
      | true =>
        cases h0 : i == 0 with
        | true =>
          simp only [Bool.not_true, cond_false, Bool.true_or, Bool.true_and]
          exact inner
        | false =>
          have h0' : 0 < i := by simp at h0; omega
          simp only [Bool.not_true, Bool.not_false, cond_true, cond_false, wrP (show i ≤ 1000000000000000000 by omega) h0', dge, dlt (show i - 1 < b.2.2.2.1.length by omega), gAt', Bool.false_or, Bool.true_and]
          cases decide ((b.2.2.2.1.getD (i - 1) dPart).1.1 ≥ b.2.2.2.1[i].1.1) with
          | true => rfl
          | false => exact inner
    · unfold f_41_0r
      rw [dnlt]; rfl
    · cases allI (partI b) 0 b.2.2.2.1 <;> rfl
theorem specBookOk {N : Nat} (hN : lim < N) {b : Book} (hb : smB b) : f_27 N b = some (bookOk b) := by
  have hlim := lim_eq
  have hls := hb.2.1.1
  have hlv : b.2.2.1.length ≤ 1048576 := hb.2.2.1.1
  unfold f_27 f_27b bookOk spotsOk
  rw [ob_eq (l2FoesOk hN b)]
  simp only [ob_eq (l1NamesOk hN (show b.2.2.1.length ≤ lim by omega) 12), ob_eq (l1In b.2.2.2.2 0 1000000)]
  have loop : f_27_0 N b N 0 = some (allI (spotI b) 0 b.2.1 && partsOk b) := by
    refine (lp_allI b.2.1 _ (spotI b) (some false) (some (partsOk b)) (fun g i hi => ?_) (fun g => ?_) N (by omega)).trans ?_
    · unfold f_27_0r spotI
      simp only [dlt hi, dge, gAt hi, cond_true, wrS (show i ≤ 1000000000000000000 by omega), dgt0]
      rw [ob_eq (l2SpotOk hN hb.1.1 (hb.2.1.2 _ (List.getElem_mem hi)))]
      cases spotOk b b.2.1[i] with
      | false => rfl
      | true =>
        cases h0 : i == 0 with
        | true => rfl
        | false =>
          have h0' : 0 < i := by simp at h0; omega
          simp only [Bool.not_true, Bool.not_false, cond_true, cond_false, wrP (show i ≤ 1000000000000000000 by omega) h0', dge, dlt (show i - 1 < b.2.1.length by omega), gAt', Bool.false_or, Bool.true_and]
          cases Op.bytesLess (b.2.1.getD (i - 1) dSpot).1 b.2.1[i].1 <;> rfl
    · unfold f_27_0r
      rw [dnlt, cond_false, ob_eq (l2PartsOk hN hb)]
    · cases allI (spotI b) 0 b.2.1 <;> rfl
  rw [loop]
  cases foesOk b <;> cases decide ((b.2.1.length : Int) > 8) <;> cases nmsOk b.2.2.1 12 <;> cases inB b.2.2.2.2 0 1000000 <;> rfl
theorem most_of_spots {b : Book} (h : allI (spotI b) 0 b.2.1 = true) : ∀ s ∈ b.2.1, 0 ≤ s.2.2.2.1 := by
  intro s hs
  obtain ⟨i, hi⟩ := List.getElem?_of_mem hs
  have := allI_iff.1 h i s hi
  simp only [spotI, spotOk, inB, Bool.and_eq_true, decide_eq_true_eq] at this
  have := this.1.2.2.1
  omega
theorem implBookOk {N : Nat} (hN : lim < N) {b : Book} (hb : smB b) : f_24 N b = some (bookOk b) := by
  have hlim := lim_eq
  have hlf := hb.1.1
  have hls := hb.2.1.1
  have hlv : b.2.2.1.length ≤ 1048576 := hb.2.2.1.1
  have hlp := hb.2.2.2.1
  unfold f_24 f_24b bookOk foesOk spotsOk partsOk
  simp only [ob_eq (implNames hN (show b.2.2.1.length ≤ lim by omega) 12), ob_eq (implIn b.2.2.2.2 0 1000000)]
  have k4 : (∀ s ∈ b.2.1, 0 ≤ s.2.2.2.1) → f_24_4 N b (b.2.2.2.1.length : Int) N 0 = some (allI (partI b) 0 b.2.2.2.1) := by
    intro hm
    refine (lp_allI b.2.2.2.1 _ (partI b) (some false) (some true) (fun g i hi => ?_) (fun g => ?_) N (by omega)).trans ?_
    · have hp := hb.2.2.2.2 _ (List.getElem_mem hi)
      have inner : ∀ c6, f_24_6 N g b (b.2.2.2.1.length : Int) (i : Int) (b.2.2.2.1.take i) ((b.2.2.2.1.take i).length : Int) b.2.2.2.1[i].1.1 b.2.2.2.1[i].1.2.1 b.2.2.2.1[i].1.2.2.1 b.2.2.2.1[i].1.2.2.2.1 b.2.2.2.1[i].1.2.2.2.2.1 b.2.2.2.1[i].1.2.2.2.2.2 c6 N 0 =
          bif (b.2.2.2.1.take i).all (fun q => !share b.2.2.2.1[i].1 q.1 && !cross b.2.2.2.1[i].1 q.1) then g ((i + 1 : Nat) : Int) else some false := by
        intro c6
        have hl : (b.2.2.2.1.take i).length = i := by simp; omega
        refine (lp_allI (b.2.2.2.1.take i) _ (fun _ q => !share b.2.2.2.1[i].1 q.1 && !cross b.2.2.2.1[i].1 q.1) (some false) (g ((i + 1 : Nat) : Int)) (fun g2 k hk => ?_) (fun g2 => ?_) N (by omega)).trans ?_
        · have hk' : k < b.2.2.2.1.length := by simp at hk; omega
          have hq := hb.2.2.2.2 _ (List.mem_of_mem_take (List.getElem_mem hk))
          unfold f_24_6r
          simp only [dlt hk, dge, gAt hk, cond_true, wrS (show k ≤ 1000000000000000000 by omega)]
          rw [ob_eq (show f_84 N (b.2.2.2.1[i].1.1, b.2.2.2.1[i].1.2.1, b.2.2.2.1[i].1.2.2.1, b.2.2.2.1[i].1.2.2.2.1, b.2.2.2.1[i].1.2.2.2.2.1, b.2.2.2.1[i].1.2.2.2.2.2) (b.2.2.2.1.take i)[k].1 = _ from implShare hN hp hq)]
          cases share b.2.2.2.1[i].1 (b.2.2.2.1.take i)[k].1 with
          | true => rfl
          | false =>
            simp only [cond_false]
            rw [ob_eq (show f_82 N (b.2.2.2.1[i].1.1, b.2.2.2.1[i].1.2.1, b.2.2.2.1[i].1.2.2.1, b.2.2.2.1[i].1.2.2.2.1, b.2.2.2.1[i].1.2.2.2.2.1, b.2.2.2.1[i].1.2.2.2.2.2) (b.2.2.2.1.take i)[k].1 = _ from implCross hN hp hq)]
            cases cross b.2.2.2.1[i].1 (b.2.2.2.1.take i)[k].1 <;> rfl
        · unfold f_24_6r
          rw [dnlt, cond_false, wrS (by omega)]
        · rw [allI_all]
      unfold f_24_4r partI
      simp only [dlt hi, dge, gAt hi, cond_true, wrS (show i ≤ 1000000000000000000 by omega), dgt0]
      have hle : decide ((i : Int) ≤ (b.2.2.2.1.length : Int)) = true := decide_eq_true (by omega)
      have hz : Int.toNat (0 : Int) = 0 := rfl
      have hi' : Int.toNat (i : Int) = i := rfl
      cases h0 : i == 0 with
      | true =>
        simp only [Bool.not_true, cond_false, Bool.true_or, Bool.true_and]
        rw [ob_eq (implPartOk hN hb hp hm)]
        cases partOk b b.2.2.2.1[i] with
        | false => rfl
        | true =>
          simp only [Bool.not_true, cond_false, hle, cond_true, hi', hz, List.drop_zero, Bool.true_and]
          exact inner _
      | false =>
        have h0' : 0 < i := by simp at h0; omega
        simp only [Bool.not_true, Bool.not_false, cond_true, cond_false, wrP (show i ≤ 1000000000000000000 by omega) h0', dge, dlt (show i - 1 < b.2.2.2.1.length by omega), gAt', Bool.false_or, Bool.true_and]
        cases decide ((b.2.2.2.1.getD (i - 1) dPart).1.1 ≥ b.2.2.2.1[i].1.1) with
        | true => simp
        | false =>
          rw [cond_false, ob_eq (implPartOk hN hb hp hm)]
          cases partOk b b.2.2.2.1[i] with
          | false => rfl
          | true =>
            simp only [Bool.not_true, Bool.not_false, cond_false, hle, cond_true, hi', hz, List.drop_zero, Bool.true_and]
            exact inner _
    · unfold f_24_4r
      rw [dnlt]; rfl
    · cases allI (partI b) 0 b.2.2.2.1 <;> rfl
  have k2 : f_24_2 N b (b.2.1.length : Int) N 0 = some (allI (spotI b) 0 b.2.1 && allI (partI b) 0 b.2.2.2.1) := by
    refine (lp_allI b.2.1 _ (spotI b) (some false) (f_24_4 N b (b.2.2.2.1.length : Int) N 0) (fun g i hi => ?_) (fun g => ?_) N (by omega)).trans ?_
    · have hs := hb.2.1.2 _ (List.getElem_mem hi)
      have h1 := hs.2.1
      unfold f_24_2r spotI spotOk
      simp only [dlt hi, dge, gAt hi, cond_true, wrS (show i ≤ 1000000000000000000 by omega), dgt0]
      rw [ob_eq (implName hN _)]
      have tail : (ob (f_97 N b.2.1[i].2.1 0 1000) false fun r => bif !r then some false else bif decide (b.2.1[i].2.2.1 < 0) then some false else bif decide (b.2.1[i].2.2.1 > b.2.1[i].2.2.2.1) then some false else bif decide (b.2.1[i].2.2.2.1 > b.2.1[i].2.1) then some false else
          ob (f_83 N b.2.1[i].2.2.2.2 8) false fun r => bif !r then some false else ob (f_17 N b b.2.1[i].2.2.2.2 b.2.1[i].2.2.2.2) false fun r => bif r then some false else g ((i + 1 : Nat) : Int)) =
          bif (inB b.2.1[i].2.1 0 1000 && (inB b.2.1[i].2.2.1 0 b.2.1[i].2.2.2.1 && (!decide (b.2.1[i].2.2.2.1 > b.2.1[i].2.1) && (nmsOk b.2.1[i].2.2.2.2 8 && !clash b b.2.1[i].2.2.2.2 b.2.1[i].2.2.2.2)))) then g ((i + 1 : Nat) : Int) else some false := by
        simp only [ob_eq (implIn b.2.1[i].2.1 0 1000), ob_eq (implNames hN (show b.2.1[i].2.2.2.2.length ≤ lim by omega) 8), ob_eq (implFoes hN hlf h1 h1)]
        have e1 : inB b.2.1[i].2.2.1 0 b.2.1[i].2.2.2.1 = (!decide (b.2.1[i].2.2.1 < 0) && !decide (b.2.1[i].2.2.1 > b.2.1[i].2.2.2.1)) := by
          unfold inB
          congr 1
          · by_cases h : b.2.1[i].2.2.1 < 0
            · rw [decide_eq_true h, decide_eq_false (by omega)]; rfl
            · rw [decide_eq_false h, decide_eq_true (by omega)]; rfl
          · by_cases h : b.2.1[i].2.2.1 > b.2.1[i].2.2.2.1
            · rw [decide_eq_true h, decide_eq_false (by omega)]; rfl
            · rw [decide_eq_false h, decide_eq_true (by omega)]; rfl
        rw [e1]
        cases inB b.2.1[i].2.1 0 1000 <;> cases decide (b.2.1[i].2.2.1 < 0) <;> cases decide (b.2.1[i].2.2.1 > b.2.1[i].2.2.2.1) <;> cases decide (b.2.1[i].2.2.2.1 > b.2.1[i].2.1) <;> cases nmsOk b.2.1[i].2.2.2.2 8 <;> cases clash b b.2.1[i].2.2.2.2 b.2.1[i].2.2.2.2 <;> rfl
      cases nmOk b.2.1[i].1 with
      | false => rfl
      | true =>
        cases h0 : i == 0 with
        | true =>
          simp only [Bool.not_true, cond_false, Bool.true_or, Bool.true_and, Bool.and_true]
          exact tail
        | false =>
          have h0' : 0 < i := by simp at h0; omega
          simp only [Bool.not_true, Bool.not_false, cond_true, cond_false, wrP (show i ≤ 1000000000000000000 by omega) h0', dge, dlt (show i - 1 < b.2.1.length by omega), gAt', Bool.false_or, Bool.true_and]
          cases Op.bytesLess (b.2.1.getD (i - 1) dSpot).1 b.2.1[i].1 with
          | false => simp
          | true =>
            simp only [Bool.not_true, cond_false, Bool.and_true]
            exact tail
    · unfold f_24_2r
      rw [dnlt]; rfl
    · cases hs : allI (spotI b) 0 b.2.1 with
      | false => rfl
      | true => rw [cond_true, k4 (most_of_spots hs)]; rfl
  have k0 : f_24_0 N b (b.1.length : Int) N 0 = some (allI (foeOk b) 0 b.1 && (allI (spotI b) 0 b.2.1 && allI (partI b) 0 b.2.2.2.1)) := by
    refine (lp_allI b.1 _ (foeOk b) (some false) (f_24_2 N b (b.2.1.length : Int) N 0) (fun g i hi => ?_) (fun g => ?_) N (by omega)).trans ?_
    · unfold f_24_0r foeOk
      simp only [dlt hi, dge, gAt hi, cond_true, wrS (show i ≤ 1000000000000000000 by omega), dgt0]
      rw [ob_eq (implName hN _)]
      simp only [ob_eq (implName hN b.1[i].2)]
      cases nmOk b.1[i].1 with
      | false => rfl
      | true =>
        cases nmOk b.1[i].2 with
        | false => rfl
        | true =>
          cases Op.bytesLess b.1[i].1 b.1[i].2 with
          | false => rfl
          | true =>
            cases h0 : i == 0 with
            | true => rfl
            | false =>
              have h0' : 0 < i := by simp at h0; omega
              simp only [Bool.not_true, Bool.not_false, cond_true, cond_false, wrP (show i ≤ 1000000000000000000 by omega) h0', dge, dlt (show i - 1 < b.1.length by omega), gAt', Bool.false_or, Bool.true_and]
              rw [ob_eq (implAhead _ _)]
              cases ahead (b.1.getD (i - 1) dFoe) b.1[i] <;> rfl
    · unfold f_24_0r
      rw [dnlt]; rfl
    · rw [k2]
      cases allI (foeOk b) 0 b.1 <;> rfl
  rw [k0]
  generalize decide ((b.1.length : Int) > 12) = x0
  generalize decide ((b.2.1.length : Int) > 8) = x1
  generalize decide ((b.2.2.2.1.length : Int) > 6) = x2
  generalize nmsOk b.2.2.1 12 = x3
  generalize inB b.2.2.2.2 0 1000000 = x4
  generalize allI (foeOk b) 0 b.1 = x5
  generalize allI (spotI b) 0 b.2.1 = x6
  generalize allI (partI b) 0 b.2.2.2.1 = x7
  revert x0 x1 x2 x3 x4 x5 x6 x7
  decide +kernel
theorem lp_find {α ρ : Type} (l : List α) (rd : (Int → Option ρ) → Int → Option ρ) (p : α → Bool) (f : α → ρ) (z : ρ)
    (hstep : ∀ (g : Int → Option ρ) (i : Nat) (h : i < l.length), rd g (i : Int) = bif p l[i] then some (f l[i]) else g ((i + 1 : Nat) : Int))
    (hend : ∀ (g : Int → Option ρ), rd g (l.length : Int) = some z) (N : Nat) (hN : l.length < N) : lp (fun _ => none) rd N 0 = some (((l.find? p).map f).getD z) := by
  have := lp_walk l (fun (g : Int → Option ρ) i (_ : Unit) => g (i : Int)) (fun _ => none) rd (fun i _ x => bif p x then .inr (some (f x)) else .inl ()) (fun _ => some z) (fun _ _ => True)
    (fun g i st h _ => ⟨by
      rw [hstep g i h]
      cases p l[i] <;> rfl, fun _ _ => trivial⟩) (fun g _ _ => hend g) N hN () trivial
  refine this.trans ?_
  have : ∀ (l : List α) i, outW (fun _ => some z) (walkL (fun i (_ : Unit) x => bif p x then Sum.inr (some (f x)) else Sum.inl ()) i l ()) = some (((l.find? p).map f).getD z) := by
    intro l
    induction l with
    | nil => intro i; rfl
    | cons x xs ih =>
      intro i
      simp only [walkL, List.find?_cons]
      cases p x with
      | false => simpa using ih (i + 1)
      | true => rfl
  exact this l 0
end Go.MC
namespace Go.MC
open Go.MC.F
theorem cloneS {N : Nat} {s : List Txt} (h : s.length ≤ 1048576) : f_20 N s = some s := by
  have hlim := lim_eq
  have h1 : decide ((0 + s.length) * 16 ≤ lim) = true := decide_eq_true (by omega)
  unfold f_20
  cases s with
  | nil => exact both_self _
  | cons x xs =>
    rw [h1]
    rfl
theorem cloneU {N : Nat} {s : List Use} (h : s.length ≤ 1048576) : f_14 N s = some s := by
  have hlim := lim_eq
  have h1 : decide ((0 + s.length) * 32 ≤ lim) = true := decide_eq_true (by omega)
  unfold f_14
  cases s with
  | nil => exact both_self _
  | cons x xs =>
    rw [h1]
    rfl
theorem cloneF {N : Nat} {s : List Foe} (h : s.length ≤ 1048576) : f_13 N s = some s := by
  have hlim := lim_eq
  have h1 : decide ((0 + s.length) * 32 ≤ lim) = true := decide_eq_true (by omega)
  unfold f_13
  cases s with
  | nil => exact both_self _
  | cons x xs =>
    rw [h1]
    rfl
theorem l1Names {N : Nat} {s : List Txt} (h : s.length ≤ 1048576) : f_55 N s = some s := by
  have hlim := lim_eq
  have h1 : decide ((0 + s.length) * 16 ≤ lim) = true := decide_eq_true (by omega)
  unfold f_55
  rw [h1]; rfl
theorem l1Want {N : Nat} {w : Want} (h : smW w) : f_70 N w = some w := by
  have hlim := lim_eq
  have h2 := h.2.1.1
  have h1 : decide ((0 + List.length w.2.2.2.1) * 32 ≤ lim) = true := decide_eq_true (by omega)
  unfold f_70
  rw [h1, cond_true, ob_eq (l1Names h.1.1), ob_eq (l1Names h.2.2.1.1), ob_eq (l1Names h.2.2.2.1)]
  rfl
theorem implCopyWant {N : Nat} {w : Want} (h : smW w) : f_44 N w = some w := by
  unfold f_44
  rw [ob_eq (cloneS h.1.1), ob_eq (cloneU h.2.1.1), ob_eq (cloneS h.2.2.1.1), ob_eq (cloneS h.2.2.2.1)]
theorem lp_appK {α ρ : Type} {l : List α} {rd : (Int → List α → Option ρ) → Int → List α → Option ρ} (fin : List α → Option ρ)
    (hstep : ∀ (g : Int → List α → Option ρ) (i : Nat) (out : List α) (h : i < l.length), out.length ≤ i → rd g (i : Int) out = g ((i + 1 : Nat) : Int) (out ++ [l[i]]))
    (hend : ∀ (g : Int → List α → Option ρ) (out : List α), rd g (l.length : Int) out = fin out) {N : Nat} (hN : l.length < N) : lp (fun _ _ => none) rd N 0 [] = fin l := by
  have := lp_walk l (fun (g : Int → List α → Option ρ) i (d : List α) => g (i : Int) d) (fun _ _ => none) rd (fun i d x => .inl (d ++ [x])) fin (fun i d => d.length ≤ i)
    (fun g i st h hi => ⟨hstep g i st h hi, fun st' hs => by cases hs; simp; omega⟩) (fun g d hd => hend g d) N hN [] (by simp)
  refine this.trans ?_
  have : ∀ (l : List α) i (d : List α), outW fin (walkL (fun i (d : List α) x => (Sum.inl (d ++ [x]) : List α ⊕ Option ρ)) i l d) = fin (d ++ l) := by
    intro l
    induction l with
    | nil => intro i d; simp [walkL, outW]
    | cons x xs ih =>
      intro i d
      simp only [walkL]
      rw [ih (i + 1) (d ++ [x])]
      simp
  rw [this l 0 []]; rfl
theorem l2Copy {N : Nat} (hN : lim < N) {b : Book} (hb : smB b) : f_71 N b = some b := by
  have hlim := lim_eq
  have h1 := hb.1.1
  have h2 := hb.2.1.1
  have h3 := hb.2.2.2.1
  have hg : decide ((0 + List.length b.1) * 32 ≤ lim) = true := decide_eq_true (by omega)
  unfold f_71 f_71b
  rw [hg, cond_true, ob_eq (l1Names hb.2.2.1.1)]
  refine (lp_appK (l := b.2.1) (fun x => f_71_2 N b b.2.2.1 0 ([] ++ b.1) x N 0 []) (fun g i out hi ho => ?_) (fun g out => ?_) (by omega)).trans ?_
  · have hm : b.2.1[i].2.2.2.2.length ≤ 1048576 := (hb.2.1.2 _ (List.getElem_mem hi)).2.1
    unfold f_71_0r
    simp only [dlt hi, dge, gAt hi, cond_true, wrS (show i ≤ 1000000000000000000 by omega), ob_eq (l1Names (N := N) hm)]
    have hg : decide ((out.length + [(b.2.1[i].1, b.2.1[i].2.1, b.2.1[i].2.2.1, b.2.1[i].2.2.2.1, b.2.1[i].2.2.2.2)].length) * 64 ≤ lim) = true := decide_eq_true (by simp only [List.length_cons, List.length_nil]; omega)
    rw [hg, cond_true]
  · unfold f_71_0r
    rw [dnlt]; rfl
  · refine (lp_appK (l := b.2.2.2.1) (fun x => some (b.1, b.2.1, b.2.2.1, x, b.2.2.2.2)) (fun g i out hi ho => ?_) (fun g out => ?_) (by omega)).trans rfl
    · have hp : smW b.2.2.2.1[i].1 := hb.2.2.2.2 _ (List.getElem_mem hi)
      unfold f_71_2r
      simp only [dlt hi, dge, gAt hi, cond_true, wrS (show i ≤ 1000000000000000000 by omega), ob_eq (l1Want (N := N) hp)]
      have hg : decide ((out.length + [(b.2.2.2.1[i].1, b.2.2.2.1[i].2)].length) * 120 ≤ lim) = true := decide_eq_true (by simp only [List.length_cons, List.length_nil]; omega)
      rw [hg, cond_true]
    · unfold f_71_2r
      rw [dnlt]; rfl
theorem implCopy {N : Nat} (hN : lim < N) {b : Book} (hb : smB b) : f_43 N b = some b := by
  have hlim := lim_eq
  have h1 := hb.1.1
  have h2 := hb.2.1.1
  have h3 := hb.2.2.2.1
  unfold f_43 f_43b
  rw [ob_eq (cloneF hb.1.1), ob_eq (cloneS hb.2.2.1.1)]
  refine (lp_appK (l := b.2.1) (fun x => f_43_2 N b b.1 b.2.2.1 0 x (b.2.2.2.1.length : Int) N 0 []) (fun g i out hi ho => ?_) (fun g out => ?_) (by omega)).trans ?_
  · have hm : b.2.1[i].2.2.2.2.length ≤ 1048576 := (hb.2.1.2 _ (List.getElem_mem hi)).2.1
    unfold f_43_0r
    simp only [dlt hi, dge, gAt hi, cond_true, wrS (show i ≤ 1000000000000000000 by omega), ob_eq (cloneS (N := N) hm)]
    have hg : decide ((out.length + [(b.2.1[i].1, b.2.1[i].2.1, b.2.1[i].2.2.1, b.2.1[i].2.2.2.1, b.2.1[i].2.2.2.2)].length) * 64 ≤ lim) = true := decide_eq_true (by simp only [List.length_cons, List.length_nil]; omega)
    rw [hg, cond_true]
  · unfold f_43_0r
    rw [dnlt]; rfl
  · refine (lp_appK (l := b.2.2.2.1) (fun x => some (b.1, b.2.1, b.2.2.1, x, b.2.2.2.2)) (fun g i out hi ho => ?_) (fun g out => ?_) (by omega)).trans rfl
    · have hp : smW b.2.2.2.1[i].1 := hb.2.2.2.2 _ (List.getElem_mem hi)
      unfold f_43_2r
      simp only [dlt hi, dge, gAt hi, cond_true, wrS (show i ≤ 1000000000000000000 by omega), ob_eq (implCopyWant (N := N) hp)]
      have hg : decide ((out.length + [(b.2.2.2.1[i].1, b.2.2.2.1[i].2)].length) * 120 ≤ lim) = true := decide_eq_true (by simp only [List.length_cons, List.length_nil]; omega)
      rw [hg, cond_true]
    · unfold f_43_2r
      rw [dnlt]; rfl
end Go.MC
namespace Go.MC
open Go.MC.F
def unionN (a b : List Txt) : Nat := a.length + (b.filter fun x => !a.contains x).length
theorem l3Union {N : Nat} (hN : lim < N) {a b : List Txt} (ha : a.length ≤ 1048576) (hb : b.length ≤ 1048576) : f_61 N a b = some (unionN a b : Int) := by
  have hlim := lim_eq
  unfold f_61 f_61b
  have := lp_walk b (fun (g : Int → Int → Option Int) i (st : Int) => g st (i : Int)) (fun _ _ => none) (f_61_0r N a b) (fun _ st x => .inl (bif a.contains x then st else st + 1)) (fun st => some st) (fun i st => 0 ≤ st ∧ st ≤ 1048576 + i)
    (fun g i st h hi => ⟨by
      unfold f_61_0r
      simp only [dlt h, dge, gAt h, cond_true, wrS (show i ≤ 1000000000000000000 by omega)]
      rw [ob_eq (l1Has hN (show a.length ≤ lim by omega) _), wr (by omega) (by omega)]
      cases a.contains b[i] <;> rfl, fun st' hs => by
      cases hs
      cases a.contains b[i]
      · exact ⟨by simp only [cond_false]; omega, by simp only [cond_false]; omega⟩
      · exact ⟨by simp only [cond_true]; omega, by simp only [cond_true]; omega⟩⟩) (fun g st _ => by
      unfold f_61_0r
      rw [dnlt]; rfl) N (by omega) (a.length : Int) ⟨by omega, by omega⟩
  refine this.trans ?_
  have : ∀ (l : List Txt) i (st : Int), outW (fun st => some st) (walkL (fun _ (st : Int) x => Sum.inl (bif a.contains x then st else st + 1)) i l st) = some (st + ((l.filter fun x => !a.contains x).length : Int)) := by
    intro l
    induction l with
    | nil => intro i st; simp [walkL, outW]
    | cons x xs ih =>
      intro i st
      simp only [walkL, List.filter_cons]
      cases a.contains x with
      | true => simpa using ih (i + 1) st
      | false =>
        simp only [cond_false, Bool.not_false, if_true, List.length_cons]
        rw [ih]
        congr 1
        omega
  rw [this, unionN]
  congr 1
theorem comp_facts (d : Array (List UInt8)) (hs : ∀ i j, i ≤ j → j < d.size → d[i]! ≤ d[j]!) : ∀ m, m ≤ d.size → (Lib.compactUpTo d m).Nodup ∧ ∀ x, x ∈ Lib.compactUpTo d m ↔ ∃ j, j < m ∧ d[j]! = x
  | 0, _ => by simp [Lib.compactUpTo]
  | m + 1, hm => by
    obtain ⟨h1, h2⟩ := comp_facts d hs m (by omega)
    rw [Lib.compactUpTo_succ]
    cases hk : Lib.keeps d m with
    | true =>
      simp only [if_true]
      have hk' : m = 0 ∨ d[m]! ≠ d[m - 1]! := by simpa [Lib.keeps] using hk
      have hn : d[m]! ∉ Lib.compactUpTo d m := by
        intro hmem
        obtain ⟨j, hj, e⟩ := (h2 _).1 hmem
        rcases hk' with h0 | hne
        · omega
        · refine hne (List.le_antisymm ?_ (hs (m - 1) m (by omega) (by omega)))
          rw [← e]
          exact hs j (m - 1) (by omega) (by omega)
      refine ⟨List.nodup_append.2 ⟨h1, by simp, fun x hx y hy => ?_⟩, fun x => ?_⟩
      · simp at hy
        subst hy
        rintro rfl
        exact hn hx
      · rw [List.mem_append, h2, List.mem_singleton]
        constructor
        · rintro (⟨j, hj, e⟩ | rfl)
          · exact ⟨j, by omega, e⟩
          · exact ⟨m, by omega, rfl⟩
        · rintro ⟨j, hj, e⟩
          by_cases hjm : j = m
          · subst hjm; exact .inr e.symm
          · exact .inl ⟨j, by omega, e⟩
    | false =>
      have hk' : ¬ (m = 0 ∨ d[m]! ≠ d[m - 1]!) := by simpa [Lib.keeps] using hk
      have hm0 : m ≠ 0 := fun h => hk' (.inl h)
      have he : d[m]! = d[m - 1]! := by
        by_cases h : d[m]! = d[m - 1]!
        · exact h
        · exact absurd (.inr h) hk'
      simp only [Bool.false_eq_true, if_false, List.append_nil]
      refine ⟨h1, fun x => ?_⟩
      rw [h2]
      constructor
      · rintro ⟨j, hj, e⟩
        exact ⟨j, by omega, e⟩
      · rintro ⟨j, hj, e⟩
        by_cases hjm : j = m
        · subst hjm
          exact ⟨j - 1, by omega, by rw [← he]; exact e⟩
        · exact ⟨j, by omega, e⟩
theorem srt_sorted (xs : List (List UInt8)) : (srt xs).Pairwise fun a b => a ≤ b := by
  have := List.pairwise_mergeSort (le := fun (x y : List UInt8) => decide (x ≤ y)) (fun a b c h1 h2 => by simpa using List.le_trans (by simpa using h1) (by simpa using h2)) (fun a b => by simpa using List.le_total a b) xs
  exact this.imp fun h => by simpa using h
theorem comp_srt (xs : List (List UInt8)) : (cmpct (srt xs)).Nodup ∧ ∀ x, x ∈ cmpct (srt xs) ↔ x ∈ xs := by
  have hs := srt_sorted xs
  obtain ⟨h1, h2⟩ := comp_facts (srt xs).toArray (fun i j hij hj => by
    have hj' : j < (srt xs).length := by simpa using hj
    have hi' : i < (srt xs).length := by omega
    rw [getElem!_pos _ i (by simpa using hi'), getElem!_pos _ j hj]
    simp only [List.getElem_toArray]
    rcases Nat.lt_or_ge i j with h | h
    · exact List.pairwise_iff_getElem.1 hs i j hi' hj' h
    · have : i = j := by omega
      subst this
      exact List.le_refl _) (srt xs).length (by simp)
  refine ⟨h1, fun x => ?_⟩
  have h3 : x ∈ cmpct (srt xs) ↔ ∃ j, j < (srt xs).length ∧ (srt xs).toArray[j]! = x := h2 x
  rw [h3, ← srt_mem (xs := xs), List.mem_iff_getElem]
  constructor
  · rintro ⟨j, hj, e⟩
    refine ⟨j, hj, ?_⟩
    rw [getElem!_pos _ j (by simpa using hj)] at e
    simpa using e
  · rintro ⟨j, hj, e⟩
    refine ⟨j, hj, ?_⟩
    rw [getElem!_pos _ j (by simpa using hj)]
    simpa using e
theorem union_eq {a b : List Txt} (ha : a.Nodup) (hb : b.Nodup) : (cmpct (srt (a ++ b))).length = unionN a b := by
  obtain ⟨h1, h2⟩ := comp_srt (a ++ b)
  have h3 : (a ++ b.filter fun x => !a.contains x).Nodup := by
    refine List.nodup_append.2 ⟨ha, hb.filter _, fun x hx y hy => ?_⟩
    rintro rfl
    have := (List.mem_filter.1 hy).2
    simp [hx] at this
  have := (List.perm_ext_iff_of_nodup h1 h3).2 fun x => by
    rw [h2, List.mem_append, List.mem_append, List.mem_filter]
    constructor
    · rintro (h | h)
      · exact .inl h
      · by_cases hx : x ∈ a
        · exact .inl hx
        · exact .inr ⟨h, by simp [hx]⟩
    · rintro (h | ⟨h, _⟩)
      · exact .inl h
      · exact .inr h
  rw [this.length_eq, List.length_append, unionN]
theorem less_trans : ∀ {a b c : Txt}, Op.bytesLess a b = true → Op.bytesLess b c = true → Op.bytesLess a c = true
  | [], [], c, h, _ => by cases h
  | [], _ :: _, [], _, h => by cases h
  | [], _ :: _, _ :: _, _, _ => rfl
  | _ :: _, [], _, h, _ => by cases h
  | _ :: _, _ :: _, [], _, h => by cases h
  | x :: a, y :: b, z :: c, h, h' => by
    simp only [Op.bytesLess, Bool.or_eq_true, Bool.and_eq_true, decide_eq_true_eq, beq_iff_eq] at h h' ⊢
    rcases h with h | ⟨rfl, h⟩
    · rcases h' with h' | ⟨rfl, h'⟩
      · exact .inl (UInt8.lt_trans h h')
      · exact .inl h
    · rcases h' with h' | ⟨rfl, h'⟩
      · exact .inl h'
      · exact .inr ⟨rfl, less_trans h h'⟩
theorem nms_nodup {l : List Txt} {n : Int} (h : nmsOk l n = true) : l.Nodup := by
  unfold nmsOk at h
  simp only [Bool.and_eq_true] at h
  have h2 := allI_iff.1 h.2
  have h3 : ∀ j, 0 < j → (hj : j < l.length) → Op.bytesLess (l[j - 1]'(by omega)) l[j] = true := by
    intro j h0 hj
    have := h2 j l[j] (by simp [hj])
    simp only [Nat.zero_add, Bool.and_eq_true, ascI, Bool.or_eq_true, beq_iff_eq] at this
    rcases this.2 with h | h
    · omega
    · rwa [List.getD_eq_getElem?_getD, List.getElem?_eq_getElem (by omega)] at h
  have h4 : ∀ (k i : Nat) (hj : i + k + 1 < l.length), Op.bytesLess (l[i]'(by omega)) l[i + k + 1] = true := by
    intro k
    induction k with
    | zero => intro i hj; exact h3 (i + 1) (by omega) hj
    | succ k ih =>
      intro i hj
      exact less_trans (ih i (by omega)) (h3 (i + (k + 1) + 1) (by omega) hj)
  refine List.pairwise_iff_getElem.2 fun i j hi hj hij e => ?_
  have := h4 (j - i - 1) i (by omega)
  simp only [show i + (j - i - 1) + 1 = j by omega] at this
  rw [e, less_irrefl] at this
  cases this
end Go.MC
namespace Go.MC
open Go.MC.F
theorem less_lt : ∀ {a b : Txt}, Op.bytesLess a b = true ↔ a < b
  | [], [] => by simp [Op.bytesLess]
  | [], _ :: _ => by simp [Op.bytesLess]
  | _ :: _, [] => by simp [Op.bytesLess]
  | x :: a, y :: b => by
    simp only [Op.bytesLess, Bool.or_eq_true, Bool.and_eq_true, decide_eq_true_eq, beq_iff_eq, List.cons_lt_cons_iff]
    rw [less_lt (a := a) (b := b)]
theorem less_tri : ∀ {a b : Txt}, Op.bytesLess a b = false → a ≠ b → Op.bytesLess b a = true
  | [], [], _, h => absurd rfl h
  | [], _ :: _, h, _ => by cases h
  | _ :: _, [], _, _ => rfl
  | x :: a, y :: b, h, hn => by
    simp only [Op.bytesLess, Bool.or_eq_false_iff, Bool.and_eq_false_iff, decide_eq_false_iff_not, beq_eq_false_iff_ne, Bool.or_eq_true, Bool.and_eq_true, decide_eq_true_eq, beq_iff_eq] at h ⊢
    by_cases hxy : x = y
    · subst hxy
      refine .inr ⟨rfl, less_tri ?_ fun e => hn (by rw [e])⟩
      rcases h.2 with h | h
      · exact absurd rfl h
      · exact h
    · refine .inl ?_
      rcases Nat.lt_or_gt_of_ne (fun e => hxy (UInt8.toNat_inj.1 e)) with h1 | h1
      · exact absurd (UInt8.lt_iff_toNat_lt.2 h1) h.1
      · exact UInt8.lt_iff_toNat_lt.2 h1
def Asc (l : List Txt) : Prop := l.Pairwise fun a b => Op.bytesLess a b = true
theorem nms_asc {l : List Txt} {n : Int} (h : nmsOk l n = true) : Asc l := by
  unfold nmsOk at h
  simp only [Bool.and_eq_true] at h
  have h2 := allI_iff.1 h.2
  have h3 : ∀ j, 0 < j → (hj : j < l.length) → Op.bytesLess (l[j - 1]'(by omega)) l[j] = true := by
    intro j h0 hj
    have := h2 j l[j] (by simp [hj])
    simp only [Nat.zero_add, Bool.and_eq_true, ascI, Bool.or_eq_true, beq_iff_eq] at this
    rcases this.2 with h | h
    · omega
    · rwa [List.getD_eq_getElem?_getD, List.getElem?_eq_getElem (by omega)] at h
  have h4 : ∀ (k i : Nat) (hj : i + k + 1 < l.length), Op.bytesLess (l[i]'(by omega)) l[i + k + 1] = true := by
    intro k
    induction k with
    | zero => intro i hj; exact h3 (i + 1) (by omega) hj
    | succ k ih =>
      intro i hj
      exact less_trans (ih i (by omega)) (h3 (i + (k + 1) + 1) (by omega) hj)
  refine List.pairwise_iff_getElem.2 fun i j hi hj hij => ?_
  have := h4 (j - i - 1) i (by omega)
  simpa only [show i + (j - i - 1) + 1 = j by omega] using this
theorem asc_ext : ∀ {a b : List Txt}, Asc a → Asc b → (∀ x, x ∈ a ↔ x ∈ b) → a = b
  | [], [], _, _, _ => rfl
  | [], y :: b, _, _, h => absurd ((h y).2 (by simp)) (by simp)
  | x :: a, [], _, _, h => absurd ((h x).1 (by simp)) (by simp)
  | x :: a, y :: b, ha, hb, h => by
    obtain ⟨ha1, ha2⟩ := List.pairwise_cons.1 ha
    obtain ⟨hb1, hb2⟩ := List.pairwise_cons.1 hb
    have e : x = y := by
      rcases List.mem_cons.1 ((h x).1 (by simp)) with h1 | h1
      · exact h1
      · rcases List.mem_cons.1 ((h y).2 (by simp)) with h2 | h2
        · exact h2.symm
        · have := less_trans (hb1 x h1) (ha1 y h2)
          rw [less_irrefl] at this
          cases this
    subst e
    have : a = b := asc_ext ha2 hb2 fun z => by
      constructor
      · intro hz
        rcases List.mem_cons.1 ((h z).1 (by simp [hz])) with h1 | h1
        · subst h1
          have := ha1 z hz
          rw [less_irrefl] at this
          cases this
        · exact h1
      · intro hz
        rcases List.mem_cons.1 ((h z).2 (by simp [hz])) with h1 | h1
        · subst h1
          have := hb1 z hz
          rw [less_irrefl] at this
          cases this
        · exact h1
    rw [this]
theorem asc_comp (xs : List Txt) : Asc (cmpct (srt xs)) := by
  have hs := srt_sorted xs
  have hn := (comp_srt xs).1
  have hle : (cmpct (srt xs)).Pairwise fun a b => a ≤ b := by
    unfold cmpct Lib.compact Lib.compactUpTo
    refine List.pairwise_map.2 ?_
    have h1 : ((List.range (srt xs).length).filter (Lib.keeps (srt xs).toArray)).Pairwise (· < ·) := List.Pairwise.filter _ List.pairwise_lt_range
    refine List.Pairwise.imp_of_mem ?_ h1
    intro i j hi hj hij
    have hj' : j < (srt xs).length := by simpa using (List.mem_filter.1 hj).1
    have hi' : i < (srt xs).length := by omega
    rw [getElem!_pos _ i (by simpa using hi'), getElem!_pos _ j (by simpa using hj')]
    simp only [List.getElem_toArray]
    exact List.pairwise_iff_getElem.1 hs i j hi' hj' hij
  have h2 := List.Pairwise.and hle hn
  refine h2.imp fun {a b} h => ?_
  cases hb : Op.bytesLess a b with
  | true => rfl
  | false =>
    have := less_lt.1 (less_tri hb h.2)
    exact absurd this (by simpa using h.1)
def insT : List Txt → Txt → List Txt
  | [], x => [x]
  | y :: ys, x => bif Op.bytesLess y x then y :: insT ys x else bif y == x then y :: ys else x :: y :: ys
theorem insT_mem : ∀ {l : List Txt} {x y : Txt}, y ∈ insT l x ↔ y = x ∨ y ∈ l
  | [], x, y => by simp [insT]
  | z :: l, x, y => by
    simp only [insT]
    cases h : Op.bytesLess z x with
    | true =>
      simp only [cond_true, List.mem_cons, insT_mem (l := l)]
      constructor
      · rintro (h | h | h)
        · exact .inr (.inl h)
        · exact .inl h
        · exact .inr (.inr h)
      · rintro (h | h | h)
        · exact .inr (.inl h)
        · exact .inl h
        · exact .inr (.inr h)
    | false =>
      cases h2 : z == x with
      | true =>
        have := beq_iff_eq.1 h2
        subst this
        simp
      | false => simp
theorem insT_length : ∀ (l : List Txt) (x : Txt), (insT l x).length ≤ l.length + 1
  | [], x => by simp [insT]
  | z :: l, x => by
    simp only [insT]
    have := insT_length l x
    cases Op.bytesLess z x with
    | true => simp; omega
    | false => cases z == x <;> simp
theorem insT_asc : ∀ {l : List Txt} (x : Txt), Asc l → Asc (insT l x)
  | [], x, _ => by simp [insT, Asc]
  | z :: l, x, h => by
    obtain ⟨h1, h2⟩ := List.pairwise_cons.1 h
    simp only [insT]
    cases hz : Op.bytesLess z x with
    | true =>
      refine List.pairwise_cons.2 ⟨fun y hy => ?_, insT_asc x h2⟩
      rcases insT_mem.1 hy with rfl | hy
      · exact hz
      · exact h1 y hy
    | false =>
      cases h3 : z == x with
      | true => exact h
      | false =>
        have hxz := less_tri hz (beq_eq_false_iff_ne.1 h3)
        refine List.pairwise_cons.2 ⟨fun y hy => ?_, h⟩
        rcases List.mem_cons.1 hy with rfl | hy
        · exact hxz
        · exact less_trans hxz (h1 y hy)
def insA (l : List Txt) (xs : List Txt) : List Txt := xs.foldl insT l
theorem insA_mem : ∀ {xs l : List Txt} {y : Txt}, y ∈ insA l xs ↔ y ∈ l ∨ y ∈ xs
  | [], l, y => by simp [insA]
  | x :: xs, l, y => by
    show y ∈ insA (insT l x) xs ↔ _
    rw [insA_mem, insT_mem, List.mem_cons]
    constructor
    · rintro ((h | h) | h)
      · exact .inr (.inl h)
      · exact .inl h
      · exact .inr (.inr h)
    · rintro (h | h | h)
      · exact .inl (.inr h)
      · exact .inl (.inl h)
      · exact .inr h
theorem insA_asc : ∀ (xs : List Txt) {l : List Txt}, Asc l → Asc (insA l xs)
  | [], l, h => h
  | x :: xs, l, h => insA_asc xs (insT_asc x h)
theorem insA_length : ∀ (xs l : List Txt), (insA l xs).length ≤ l.length + xs.length
  | [], l => by simp [insA]
  | x :: xs, l => by
    have h1 := insA_length xs (insT l x)
    have h2 := insT_length l x
    show (insA (insT l x) xs).length ≤ _
    simp; omega
theorem insA_comp {l xs : List Txt} (h : Asc l) : cmpct (srt (l ++ xs)) = insA l xs :=
  asc_ext (asc_comp _) (insA_asc xs h) fun x => by rw [(comp_srt _).2, insA_mem, List.mem_append]
theorem l3Insert {N : Nat} (hN : lim < N) {l : List Txt} (hl : l.length ≤ 1048576) (x : Txt) : f_51 N l x = some (insT l x) := by
  have hlim := lim_eq
  unfold f_51 f_51b
  have := lp_walk l (fun (g : Int → Option (List Txt)) i (_ : Unit) => g (i : Int)) (fun _ => none) (f_51_0r N l x) (fun i _ y => bif Op.bytesLess y x then .inl () else .inr (some (bif y == x then l else l.take i ++ [x] ++ l.drop i))) (fun _ => some (l ++ [x])) (fun _ _ => True)
    (fun g i st h _ => ⟨by
      unfold f_51_0r
      have e1 : decide ((i : Int) ≤ (l.length : Int)) = true := decide_eq_true (by omega)
      have e2 : decide ((0 + (List.drop (Int.toNat 0) (List.take (Int.toNat (i : Int)) l)).length) * 16 ≤ lim) = true := decide_eq_true (by simp; omega)
      have e3 : decide ((([] ++ List.drop (Int.toNat 0) (List.take (Int.toNat (i : Int)) l)).length + [x].length) * 16 ≤ lim) = true := decide_eq_true (by simp; omega)
      have e4 : decide ((l.length : Int) ≤ (l.length : Int)) = true := decide_eq_true (by omega)
      have e5 : decide ((([] ++ List.drop (Int.toNat 0) (List.take (Int.toNat (i : Int)) l) ++ [x]).length + (List.drop (Int.toNat (i : Int)) (List.take (l.length : Int).toNat l)).length) * 16 ≤ lim) = true := decide_eq_true (by simp; omega)
      simp only [dlt h, dge, gAt h, cond_true, wrS (show i ≤ 1000000000000000000 by omega), e1, e2, e3, e4, e5]
      have e6 : [] ++ List.drop (Int.toNat 0) (List.take (Int.toNat (i : Int)) l) ++ [x] ++ List.drop (Int.toNat (i : Int)) (List.take (l.length : Int).toNat l) = l.take i ++ [x] ++ l.drop i := by simp
      rw [e6]
      cases Op.bytesLess l[i] x <;> cases l[i] == x <;> rfl, fun _ _ => trivial⟩) (fun g _ _ => by
      unfold f_51_0r
      have e1 : decide ((l.length : Int) ≤ (l.length : Int)) = true := decide_eq_true (by omega)
      have e2 : decide ((0 + (List.drop (Int.toNat 0) (List.take (Int.toNat (l.length : Int)) l)).length) * 16 ≤ lim) = true := decide_eq_true (by simp; omega)
      have e3 : decide ((([] ++ List.drop (Int.toNat 0) (List.take (Int.toNat (l.length : Int)) l)).length + [x].length) * 16 ≤ lim) = true := decide_eq_true (by simp; omega)
      have e5 : decide ((([] ++ List.drop (Int.toNat 0) (List.take (Int.toNat (l.length : Int)) l) ++ [x]).length + (List.drop (Int.toNat (l.length : Int)) (List.take (l.length : Int).toNat l)).length) * 16 ≤ lim) = true := decide_eq_true (by simp; omega)
      simp only [dnlt, dge, cond_true, cond_false, e1, e2, e3, e5]
      congr 1
      simp) N (by omega) () trivial
  refine this.trans ?_
  have : ∀ (suf pre : List Txt), l = pre ++ suf → outW (fun _ => some (l ++ [x])) (walkL (fun i (_ : Unit) y => (bif Op.bytesLess y x then Sum.inl () else Sum.inr (some (bif y == x then l else l.take i ++ [x] ++ l.drop i)) : Unit ⊕ Option (List Txt))) pre.length suf ()) = some (pre ++ insT suf x) := by
    intro suf
    induction suf with
    | nil => intro pre h; simp [walkL, outW, insT, h]
    | cons y ys ih =>
      intro pre h
      simp only [walkL, insT]
      cases hy : Op.bytesLess y x with
      | true =>
        have := ih (pre ++ [y]) (by simp [h])
        simp only [cond_true]
        rw [show pre.length + 1 = (pre ++ [y]).length by simp]
        rw [this]
        simp
      | false =>
        cases hyx : y == x with
        | true => simp [outW, h]
        | false => simp [outW, h]
  have := this l [] rfl
  simpa using this
end Go.MC
namespace Go.MC
open Go.MC.F
def partAt (b : Book) (n : Int) : Int := idxB (fun p : Part => p.1.1 == n) 0 b.2.2.2.1
theorem l2Part {N : Nat} (hN : lim < N) {b : Book} (hb : smB b) (n : Int) : f_73 N b n = some (partAt b n) := by
  have hlim := lim_eq
  have hlp := hb.2.2.2.1
  unfold f_73 f_73b partAt
  refine lp_idx b.2.2.2.1 _ (fun p : Part => p.1.1 == n) (fun g i hi => ?_) (fun g => ?_) N (by omega)
  · unfold f_73_0r
    simp only [dlt hi, dge, gAt hi, cond_true, wrS (show i ≤ 1000000000000000000 by omega)]
  · unfold f_73_0r
    rw [dnlt]; rfl
theorem implPart {N : Nat} (hN : lim < N) {b : Book} (hb : smB b) (n : Int) : f_18 N b n = some (partAt b n) := by
  have hlim := lim_eq
  have hlp := hb.2.2.2.1
  unfold f_18 partAt
  have h : f_0 N b.2.2.2.1 n = some (idxB (fun p : Part => p.1.1 == n) 0 b.2.2.2.1, n) := by
    unfold f_0 f_0b
    refine lp_idxC b.2.2.2.1 _ (fun p : Part => p.1.1 == n) n (fun g i hi => ?_) (fun g => ?_) N (by omega)
    · unfold f_0_0r
      simp only [dlt hi, dge, gAt hi, cond_true, wrS (show i ≤ 1000000000000000000 by omega)]
      rw [ob_eq (show f_10 N b.2.2.2.1[i] n = some (b.2.2.2.1[i].1.1 == n, n) from rfl)]
    · unfold f_0_0r
      rw [dnlt]; rfl
  rw [ob_eq h]
theorem partAt_lt {b : Book} {n : Int} (h : 0 ≤ partAt b n) : partAt b n < b.2.2.2.1.length := by
  have := idxB_lt _ _ _ h
  unfold partAt
  omega
theorem sm_none : smB ([], [], [], [], 0) := by
  simp [smB, smL]
end Go.MC
namespace Go.MC
open Go.MC.F
theorem lne (m n : Nat) : ((m : Int) != (n : Int)) = !(m == n) := by
  by_cases h : m = n
  · subst h; simp
  · have : ¬ ((m : Int) = (n : Int)) := by omega
    show (!((m : Int) == (n : Int))) = _
    rw [beq_eq_false_iff_ne.2 this, beq_eq_false_iff_ne.2 h]
theorem bneI (m n : Int) : (m != n) = !(m == n) := rfl
theorem lp_pos {F : Type} (z : F) (rd : F → F) {N : Nat} (h : 0 < N) : lp z rd N = rd (lp z rd (N - 1)) := by
  cases N with
  | zero => omega
  | succ n => rfl
def alike (a b : List Txt) : Bool := (a.length == b.length) && allI (fun i x => x == b.getD i []) 0 a
def eqU (u v : Use) : Bool := u.1 == v.1 && (u.2.1 == v.2.1 && (u.2.2 == v.2.2 && true))
def alikeU (a b : List Use) : Bool := (a.length == b.length) && allI (fun i x => eqU x (b.getD i dUse)) 0 a
def sameW (a b : Want) : Bool := (a.1 == b.1) && ((a.2.1 == b.2.1) && (alike a.2.2.1 b.2.2.1 && (alikeU a.2.2.2.1 b.2.2.2.1 && (alike a.2.2.2.2.1 b.2.2.2.2.1 && alike a.2.2.2.2.2 b.2.2.2.2.2))))
theorem l1Alike {N : Nat} (hN : lim < N) {a b : List Txt} (ha : a.length ≤ 1048576) : f_54 N a b = some (alike a b) := by
  have hlim := lim_eq
  unfold f_54 f_54b alike
  rw [lne]
  cases h : a.length == b.length with
  | false => rfl
  | true =>
    have h' : a.length = b.length := by simpa using h
    refine (lp_allI a _ (fun i x => x == b.getD i []) (some false) (some true) (fun g i hi => ?_) (fun g => ?_) N (by omega)).trans ?_
    · unfold f_54_0r
      simp only [dlt hi, dlt (show i < b.length by omega), dge, gAt hi, cond_true, wrS (show i ≤ 1000000000000000000 by omega)]
      simp only [gAt']
      cases a[i] == b.getD i [] <;> rfl
    · unfold f_54_0r
      rw [dnlt]; rfl
    · cases allI (fun i x => x == b.getD i []) 0 a <;> rfl
theorem l1Same {N : Nat} (hN : lim < N) {a b : Want} (ha : smW a) : f_69 N a b = some (sameW a b) := by
  have hlim := lim_eq
  have h1 := ha.2.1.1
  unfold f_69 f_69b sameW alikeU
  rw [bneI, bneI, lne]
  simp only [ob_eq (l1Alike hN (b := b.2.2.1) ha.1.1), ob_eq (l1Alike hN (b := b.2.2.2.2.1) ha.2.2.1.1), ob_eq (l1Alike hN (b := b.2.2.2.2.2) ha.2.2.2.1)]
  cases h : a.2.2.2.1.length == b.2.2.2.1.length with
  | false =>
    cases a.1 == b.1 <;> cases a.2.1 == b.2.1 <;> cases alike a.2.2.1 b.2.2.1 <;> rfl
  | true =>
    have h' : a.2.2.2.1.length = b.2.2.2.1.length := by simpa using h
    have k : f_69_0 N a b N 0 = some (allI (fun i x => eqU x (b.2.2.2.1.getD i dUse)) 0 a.2.2.2.1) := by
      refine (lp_allI a.2.2.2.1 _ (fun i x => eqU x (b.2.2.2.1.getD i dUse)) (some false) (some true) (fun g i hi => ?_) (fun g => ?_) N (by omega)).trans ?_
      · unfold f_69_0r
        simp only [dlt hi, dlt (show i < b.2.2.2.1.length by omega), dge, gAt hi, cond_true, wrS (show i ≤ 1000000000000000000 by omega)]
        simp only [gAt']
        show (bif !(eqU a.2.2.2.1[i] (b.2.2.2.1.getD i dUse)) then some false else g ((i + 1 : Nat) : Int)) = _
        cases eqU a.2.2.2.1[i] (b.2.2.2.1.getD i dUse) <;> rfl
      · unfold f_69_0r
        rw [dnlt]; rfl
      · cases allI (fun i x => eqU x (b.2.2.2.1.getD i dUse)) 0 a.2.2.2.1 <;> rfl
    rw [k]
    cases a.1 == b.1 <;> cases a.2.1 == b.2.1 <;> cases alike a.2.2.1 b.2.2.1 <;> cases alike a.2.2.2.2.1 b.2.2.2.2.1 <;> cases alike a.2.2.2.2.2 b.2.2.2.2.2 <;> cases allI (fun i x => eqU x (b.2.2.2.1.getD i dUse)) 0 a.2.2.2.1 <;> rfl
theorem any2_comm {α β : Type} (l : List α) (m : List β) (p : α → β → Bool) : (l.any fun x => m.any fun y => p x y) = m.any fun y => l.any fun x => p x y := by
  rw [Bool.eq_iff_iff]
  simp only [List.any_eq_true]
  constructor
  · rintro ⟨x, hx, y, hy, h⟩; exact ⟨y, hy, x, hx, h⟩
  · rintro ⟨y, hy, x, hx, h⟩; exact ⟨x, hx, y, hy, h⟩
theorem share_comm (a b : Want) : share a b = share b a := by
  unfold share
  rw [any2_comm]
  congr 1
  funext u
  congr 1
  funext v
  exact BEq.comm
theorem anyC_comm (l m : List Txt) : (l.any fun x => m.contains x) = m.any fun x => l.contains x := by
  simp only [List.contains_eq_any_beq]
  rw [any2_comm]
  congr 1
  funext u
  congr 1
  funext v
  exact BEq.comm
theorem cross_comm (a b : Want) : cross a b = cross b a := by
  unfold cross
  rw [anyC_comm a.2.2.2.2.1 b.2.2.2.2.1, anyC_comm a.2.2.2.2.1 b.2.2.2.2.2, anyC_comm a.2.2.2.2.2 b.2.2.2.2.1]
  cases (b.2.2.2.2.1.any fun x => a.2.2.2.2.1.contains x) <;> cases (b.2.2.2.2.2.any fun x => a.2.2.2.2.1.contains x) <;> cases (b.2.2.2.2.1.any fun x => a.2.2.2.2.2.contains x) <;> rfl
theorem l2Clashes {N : Nat} (hN : lim < N) {b : Book} (hb : b.1.length ≤ 1048576) {x y : List Txt} (hx : x.length ≤ 1048576) (hy : y.length ≤ 1048576) : f_39 N b x y = some (clash b x y) := by
  have hlim := lim_eq
  unfold f_39 f_39b
  refine (lp_allI x _ (fun _ u => !(y.any fun v => isFoe b u v)) (some true) (some false) (fun g i hi => ?_) (fun g => ?_) N (by omega)).trans ?_
  · unfold f_39_0r
    simp only [dlt hi, dge, gAt hi, cond_true, wrS (show i ≤ 1000000000000000000 by omega)]
    rw [ob_eq (l2Clash hN hb _ hy)]
    cases y.any fun v => isFoe b x[i] v <;> rfl
  · unfold f_39_0r
    rw [dnlt]; rfl
  · rw [allI_all, not_any, clash_eq]
    cases x.any fun u => y.any fun v => isFoe b u v <;> rfl
def stuffU (b : Book) (w : Want) (u : Use) : Int :=
  bif u.2.1 == 2 then (bif clash b w.2.2.1 (spotAt b u.1).2.2.2.2 then 8 else bif decide ((unionN (spotAt b u.1).2.2.2.2 w.2.2.1 : Int) > 8) then 5 else 0)
  else bif (spotAt b u.1).2.2.2.2.all (fun x => w.2.2.1.contains x) then 0 else 8
def amountU (b : Book) (w : Want) (u : Use) : Int :=
  bif u.2.1 == 1 && decide ((spotAt b u.1).2.2.1 < u.2.2) then 9
  else bif u.2.1 == 2 && decide (IntKind.i64.wrap ((spotAt b u.1).2.2.2.1 + u.2.2) > (spotAt b u.1).2.1) then 10
  else bif w.2.1 == 2 && decide ((spotAt b u.1).2.2.2.1 > 0) then 11 else 0
def first (f : Use → Int) (l : List Use) : Int := ((l.find? fun u => f u != 0).map f).getD 0
def stuffs (b : Book) (w : Want) : Int := bif clash b w.2.2.1 w.2.2.1 then 8 else bif w.2.1 == 1 then first (stuffU b w) w.2.2.2.1 else 0
def amounts (b : Book) (w : Want) : Int := first (amountU b w) w.2.2.2.1
theorem l3Amounts {N : Nat} (hN : lim < N) {b : Book} {w : Want} (hb : smB b) (hw : smW w) (hk : knowsB b w = true) : f_42 N b w = some (amounts b w) := by
  have hlim := lim_eq
  have h1 := hw.2.1.1
  unfold f_42 f_42b amounts first
  refine lp_find w.2.2.2.1 _ (fun u => amountU b w u != 0) (amountU b w) 0 (fun g i hi => ?_) (fun g => ?_) N (by omega)
  · obtain ⟨h2, h3⟩ := at_of_knows hk hi
    unfold f_42_0r
    simp only [dlt hi, dge, gAt hi, cond_true, wrS (show i ≤ 1000000000000000000 by omega)]
    rw [ob_eq (l2Spot hN hb.2.1.1 _), decide_eq_true h2, decide_eq_true h3]
    simp only [cond_true, show b.2.1.getD (atB b w.2.2.2.1[i].1).toNat dSpot = spotAt b w.2.2.2.1[i].1 from rfl]
    unfold amountU
    cases w.2.2.2.1[i].2.1 == 1 <;> cases decide ((spotAt b w.2.2.2.1[i].1).2.2.1 < w.2.2.2.1[i].2.2) <;> cases w.2.2.2.1[i].2.1 == 2 <;> cases decide (IntKind.i64.wrap ((spotAt b w.2.2.2.1[i].1).2.2.2.1 + w.2.2.2.1[i].2.2) > (spotAt b w.2.2.2.1[i].1).2.1) <;> cases w.2.1 == 2 <;> cases decide ((spotAt b w.2.2.2.1[i].1).2.2.2.1 > 0) <;> rfl
  · unfold f_42_0r
    rw [dnlt]; rfl
theorem l3Stuffs {N : Nat} (hN : lim < N) {b : Book} {w : Want} (hb : smB b) (hw : smW w) (hk : knowsB b w = true) : f_52 N b w = some (stuffs b w) := by
  have hlim := lim_eq
  have h1 := hw.2.1.1
  unfold f_52 f_52b stuffs
  rw [ob_eq (l2Clashes hN hb.1.1 hw.1.1 hw.1.1)]
  cases clash b w.2.2.1 w.2.2.1 with
  | true => rfl
  | false =>
    simp only [cond_false]
    cases hkind : w.2.1 == 1 with
    | false =>
      unfold f_52_0
      rw [lp_pos _ _ (by omega)]
      unfold f_52_0r
      rw [hkind]
      cases decide ((0 : Int) < (w.2.2.2.1.length : Int)) <;> rfl
    | true =>
      unfold first
      refine lp_find w.2.2.2.1 _ (fun u => stuffU b w u != 0) (stuffU b w) 0 (fun g i hi => ?_) (fun g => ?_) N (by omega)
      · obtain ⟨h2, h3⟩ := at_of_knows hk hi
        have hs := hb.2.1.2 _ (spotAt_mem h2 h3)
        unfold f_52_0r
        rw [hkind]
        simp only [dlt hi, dge, gAt hi, cond_true, wrS (show i ≤ 1000000000000000000 by omega)]
        rw [ob_eq (l2Spot hN hb.2.1.1 _), decide_eq_true h2, decide_eq_true h3]
        simp only [cond_true, show b.2.1.getD (atB b w.2.2.2.1[i].1).toNat dSpot = spotAt b w.2.2.2.1[i].1 from rfl]
        simp only [ob_eq (l1All hN hs.2.1 hw.1.1), ob_eq (l2Clashes hN hb.1.1 hw.1.1 hs.2.1), ob_eq (l3Union hN hs.2.1 hw.1.1), bneI]
        unfold stuffU
        cases w.2.2.2.1[i].2.1 == 2 <;> cases (spotAt b w.2.2.2.1[i].1).2.2.2.2.all (fun x => w.2.2.1.contains x) <;> cases clash b w.2.2.1 (spotAt b w.2.2.2.1[i].1).2.2.2.2 <;> cases decide ((unionN (spotAt b w.2.2.2.1[i].1).2.2.2.2 w.2.2.1 : Int) > 8) <;> rfl
      · unfold f_52_0r
        rw [dnlt]; rfl
end Go.MC
namespace Go.MC
open Go.MC.F
def partG (b : Book) (n : Int) : Part := b.2.2.2.1.getD (partAt b n).toNat dPart
def codeB (b : Book) (w : Want) : Int :=
  bif !bookOk b then 1 else bif !wantOk w then 2 else bif !knowsB b w then 2 else
  bif decide (partAt b w.1 ≥ 0) then (bif sameW (partG b w.1).1 w then 0 else 3) else
  bif decide (w.1 ≤ b.2.2.2.2) then 4 else bif decide ((b.2.2.2.1.length : Int) ≥ 6) then 5 else
  bif b.2.2.2.1.any (fun p => share p.1 w) then 6 else bif b.2.2.2.1.any (fun p => cross p.1 w) then 7 else
  bif stuffs b w != 0 then stuffs b w else amounts b w
theorem part_lt {b : Book} {n : Int} (h : 0 ≤ partAt b n) : partAt b n < b.2.2.2.1.length := by
  have := idxB_lt (fun p : Part => p.1.1 == n) b.2.2.2.1 0 h
  unfold partAt
  omega
theorem partG_mem {b : Book} {n : Int} (h : 0 ≤ partAt b n) : partG b n ∈ b.2.2.2.1 := by
  have := part_lt h
  exact getD_mem (by omega) _
theorem specCode {N : Nat} (hN : lim < N) {b : Book} {w : Want} (hb : smB b) (hw : smW w) : f_34 N b w = some (codeB b w) := by
  have hlim := lim_eq
  have hlp := hb.2.2.2.1
  unfold f_34 f_34b codeB
  rw [ob_eq (specBookOk hN hb)]
  cases hbk : bookOk b with
  | false => rfl
  | true =>
    simp only [Bool.not_true, cond_false]
    rw [ob_eq (specWantOk hN hw)]
    cases wantOk w with
    | false => rfl
    | true =>
      simp only [Bool.not_true, cond_false]
      rw [ob_eq (l2Knows hN hb hw)]
      cases hk : knowsB b w with
      | false => rfl
      | true =>
        simp only [Bool.not_true, cond_false]
        rw [ob_eq (l2Part hN hb w.1)]
        cases hp : decide (partAt b w.1 ≥ 0) with
        | true =>
          have hp' : 0 ≤ partAt b w.1 := of_decide_eq_true hp
          rw [show decide (partAt b w.1 < (b.2.2.2.1.length : Int)) = true from decide_eq_true (part_lt hp')]
          simp only [cond_true]
          rw [ob_eq (show f_69 N (b.2.2.2.1.getD (partAt b w.1).toNat dPart).1 w = _ from l1Same hN (hb.2.2.2.2 _ (partG_mem hp')))]
          show (bif sameW (partG b w.1).1 w then some 0 else some 3) = _
          cases sameW (partG b w.1).1 w <;> rfl
        | false =>
          simp only [cond_false]
          cases decide (w.1 ≤ b.2.2.2.2) with
          | true => rfl
          | false =>
            simp only [cond_false]
            cases decide ((b.2.2.2.1.length : Int) ≥ 6) with
            | true => rfl
            | false =>
              simp only [cond_false]
              have k2 : f_34_2 N b w N 0 = some (bif b.2.2.2.1.any (fun p => cross p.1 w) then 7 else bif stuffs b w != 0 then stuffs b w else amounts b w) := by
                refine (lp_allI b.2.2.2.1 _ (fun _ p => !cross p.1 w) (some 7) (some (bif stuffs b w != 0 then stuffs b w else amounts b w)) (fun g i hi => ?_) (fun g => ?_) N (by omega)).trans ?_
                · unfold f_34_2r
                  simp only [dlt hi, dge, gAt hi, cond_true, wrS (show i ≤ 1000000000000000000 by omega)]
                  rw [ob_eq (l2Crosses hN hw (hb.2.2.2.2 _ (List.getElem_mem hi))), cross_comm w]
                  cases cross b.2.2.2.1[i].1 w <;> rfl
                · unfold f_34_2r
                  rw [dnlt, cond_false, ob_eq (l3Stuffs hN hb hw hk), ob_eq (l3Amounts hN hb hw hk)]
                  cases stuffs b w != 0 <;> rfl
                · rw [allI_all, not_any]
                  cases b.2.2.2.1.any fun p => cross p.1 w <;> rfl
              refine (lp_allI b.2.2.2.1 _ (fun _ p => !share p.1 w) (some 6) (some (bif b.2.2.2.1.any (fun p => cross p.1 w) then 7 else bif stuffs b w != 0 then stuffs b w else amounts b w)) (fun g i hi => ?_) (fun g => ?_) N (by omega)).trans ?_
              · have hpi := hb.2.2.2.2 _ (List.getElem_mem hi)
                unfold f_34_0r
                simp only [dlt hi, dge, gAt hi, cond_true, wrS (show i ≤ 1000000000000000000 by omega)]
                rw [ob_eq (l2Uses hN hw), ob_eq (l2Uses hN hpi), ob_eq (l2Share hN hw hpi), share_comm w]
                cases share b.2.2.2.1[i].1 w <;> rfl
              · unfold f_34_0r
                rw [dnlt, cond_false]
                exact k2
              · rw [allI_all, not_any]
                cases b.2.2.2.1.any fun p => share p.1 w <;> rfl
end Go.MC
namespace Go.MC
open Go.MC.F
def idxS (n : Txt) (sp : List Spot) : Int := idxB (fun s : Spot => s.1 == n) 0 sp
theorem idxS_map : ∀ (sp : List Spot) (n : Txt) (i : Nat), idxB (fun s : Spot => s.1 == n) i sp = idxB (fun x => x == n) i (sp.map (·.1))
  | [], _, _ => rfl
  | s :: sp, n, i => by simp only [List.map_cons, idxB]; rw [idxS_map sp n (i + 1)]
theorem idxS_names {sp sq : List Spot} (h : sp.map (·.1) = sq.map (·.1)) (n : Txt) : idxS n sp = idxS n sq := by
  unfold idxS; rw [idxS_map, idxS_map, h]
theorem map_set_same {α β : Type} {l : List α} {k : Nat} {v : α} (f : α → β) (h : (hk : k < l.length) → f v = f l[k]) : (l.set k v).map f = l.map f := by
  refine List.ext_getElem (by simp) fun i h1 h2 => ?_
  simp only [List.length_map, List.length_set] at h1 h2
  simp only [List.getElem_map, List.getElem_set]
  by_cases e : k = i
  · subst e; simp [h h2]
  · simp [e]
theorem sAt {α : Type} {l : List α} {i : Nat} (x : α) : l.set (Int.toNat (i : Int)) x = l.set i x := by rw [Int.toNat_natCast]
theorem gS' {α : Type} {l : List α} {i : Nat} {x : α} (h : i < l.length) (d : α) : (l.set i x).getD i d = x := by
  rw [List.getD_eq_getElem?_getD, List.getElem?_set_self h]; rfl
theorem sS' {α : Type} {l : List α} {i : Nat} {x y : α} : (l.set i x).set i y = l.set i y := List.set_set ..
theorem walk_fold {σ α ρ : Type} (f : σ → α → σ) (fin : σ → Option ρ) : ∀ (xs : List α) (i : Nat) (d : σ), outW fin (walkL (fun _ d x => (Sum.inl (f d x) : σ ⊕ Option ρ)) i xs d) = fin (xs.foldl f d)
  | [], _, _ => rfl
  | x :: xs, i, d => by
    simp only [walkL, List.foldl_cons]
    exact walk_fold f fin xs (i + 1) (f d x)
end Go.MC
namespace Go.MC
open Go.MC.F
def putU (w : Want) (u : Use) (s : Spot) : Spot :=
  (s.1, s.2.1, (bif u.2.1 == 1 then IntKind.i64.wrap (s.2.2.1 - u.2.2) else s.2.2.1), (bif u.2.1 == 2 then IntKind.i64.wrap (s.2.2.2.1 + u.2.2) else s.2.2.2.1), (bif u.2.1 != 1 then insA s.2.2.2.2 w.2.2.1 else s.2.2.2.2))
def putS (w : Want) (sp : List Spot) (u : Use) : List Spot := sp.set (idxS u.1 sp).toNat (putU w u (sp.getD (idxS u.1 sp).toNat dSpot))
def spotG (n : Nat) (s : Spot) : Prop := smT s.1 ∧ Asc s.2.2.2.2 ∧ (∀ x ∈ s.2.2.2.2, smT x) ∧ s.2.2.2.2.length ≤ n
structure PutI (b : Book) (i : Nat) (sp : List Spot) : Prop where
  names : sp.map (·.1) = b.2.1.map (·.1)
  good : ∀ s ∈ sp, spotG (8 + 8 * i) s
theorem PutI.len {b : Book} {i : Nat} {sp : List Spot} (h : PutI b i sp) : sp.length = b.2.1.length := by
  have := congrArg List.length h.names
  simpa using this
theorem putU_good {w : Want} {u : Use} {n : Nat} {s : Spot} (h : spotG n s) (hw : w.2.2.1.length ≤ 8) (hx : ∀ x ∈ w.2.2.1, smT x) : spotG (n + 8) (putU w u s) := by
  obtain ⟨h1, h2, h3, h4⟩ := h
  unfold putU spotG
  refine ⟨h1, ?_⟩
  simp only
  cases u.2.1 != 1 with
  | false => exact ⟨h2, h3, by simp only [cond_false]; omega⟩
  | true =>
    simp only [cond_true]
    have := insA_length w.2.2.1 s.2.2.2.2
    refine ⟨insA_asc _ h2, fun x hm => ?_, by omega⟩
    rcases insA_mem.1 hm with h | h
    · exact h3 x h
    · exact hx x h
theorem PutI.step {b : Book} {i : Nat} {sp : List Spot} (h : PutI b i sp) {w : Want} (u : Use) (hw : w.2.2.1.length ≤ 8) (hx : ∀ x ∈ w.2.2.1, smT x) : PutI b (i + 1) (putS w sp u) := by
  refine ⟨?_, fun s hs => ?_⟩
  · rw [← h.names]
    refine map_set_same _ fun hk => ?_
    unfold putU
    simp only [List.getD_eq_getElem?_getD, List.getElem?_eq_getElem hk, Option.getD_some]
  · have e : 8 + 8 * (i + 1) = 8 + 8 * i + 8 := by omega
    rw [e]
    by_cases hk : (idxS u.1 sp).toNat < sp.length
    · rcases List.mem_or_eq_of_mem_set hs with hs | hs
      · obtain ⟨h1, h2, h3, h4⟩ := h.good s hs
        exact ⟨h1, h2, h3, by omega⟩
      · subst hs
        exact putU_good (h.good _ (getD_mem hk _)) hw hx
    · unfold putS at hs
      rw [List.set_eq_of_length_le (by omega)] at hs
      obtain ⟨h1, h2, h3, h4⟩ := h.good s hs
      exact ⟨h1, h2, h3, by omega⟩
theorem PutI.at {b : Book} {i : Nat} {sp : List Spot} (h : PutI b i sp) {w : Want} (hk : knowsB b w = true) {j : Nat} (hj : j < w.2.2.2.1.length) : 0 ≤ idxS w.2.2.2.1[j].1 sp ∧ idxS w.2.2.2.1[j].1 sp < (sp.length : Int) := by
  have h1 := at_of_knows hk hj
  rw [idxS_names h.names, h.len]
  exact h1
theorem putStuffs {N : Nat} (hN : lim < N) {nx : Int → List Spot → Option Book} {b0 : List Foe} {b2 : List Txt} {b3 : List Part} {b4 : Int} {w : Want} {t i : Int} {k : Nat} {n : Txt} {role am : Int} {sp : List Spot} (hk : k < sp.length) (hw : w.2.2.1.length ≤ 8) (hs : (sp.getD k dSpot).2.2.2.2.length ≤ 1000) :
    f_91_2 N nx b0 b2 b3 b4 w t i (k : Int) n role am N 0 sp = nx (IntKind.i64.wrap (i + 1)) (bif role != 1 then sp.set k ((sp.getD k dSpot).1, (sp.getD k dSpot).2.1, (sp.getD k dSpot).2.2.1, (sp.getD k dSpot).2.2.2.1, insA (sp.getD k dSpot).2.2.2.2 w.2.2.1) else sp) := by
  have hlim := lim_eq
  cases hr : role != 1 with
  | false =>
    unfold f_91_2
    rw [lp_pos _ _ (show 0 < N by omega)]
    unfold f_91_2r
    rw [hr, cond_false]
    cases decide ((0 : Int) < (w.2.2.1.length : Int)) <;> rfl
  | true =>
    rw [cond_true]
    unfold f_91_2
    have := lp_walk w.2.2.1 (fun (g : Int → List Spot → Option Book) i (d : List Spot) => g (i : Int) d) (fun _ _ => none) (f_91_2r N nx b0 b2 b3 b4 w t i (k : Int) n role am)
      (fun _ d x => .inl (d.set k ((d.getD k dSpot).1, (d.getD k dSpot).2.1, (d.getD k dSpot).2.2.1, (d.getD k dSpot).2.2.2.1, insT (d.getD k dSpot).2.2.2.2 x))) (fun d => nx (IntKind.i64.wrap (i + 1)) d) (fun j d => d.length = sp.length ∧ (d.getD k dSpot).2.2.2.2.length ≤ 1000 + j)
      (fun g j d h hi => ⟨by
        obtain ⟨h1, h2⟩ := hi
        have hkd : k < d.length := by omega
        unfold f_91_2r
        simp only [dlt h, dge, gAt h, gAt', sAt, hr, cond_true, wrS (show j ≤ 1000000000000000000 by omega), dlt hkd, ob_eq (l3Insert hN (show (d.getD k dSpot).2.2.2.2.length ≤ 1048576 by omega) _)]
        rfl, fun st' hs => by
        cases hs
        obtain ⟨h1, h2⟩ := hi
        refine ⟨by simp [h1], ?_⟩
        rw [gS' (show k < d.length by omega)]
        have := insT_length (d.getD k dSpot).2.2.2.2 w.2.2.1[j]
        show (insT (d.getD k dSpot).2.2.2.2 w.2.2.1[j]).length ≤ 1000 + (j + 1)
        omega⟩) (fun g d _ => by
        unfold f_91_2r
        rw [dnlt]; rfl) N (by omega) sp ⟨rfl, by omega⟩
    refine this.trans ?_
    have : ∀ (xs : List Txt) (j : Nat) (d : List Spot), k < d.length → outW (fun d => nx (IntKind.i64.wrap (i + 1)) d) (walkL (fun _ (d : List Spot) x => (Sum.inl (d.set k ((d.getD k dSpot).1, (d.getD k dSpot).2.1, (d.getD k dSpot).2.2.1, (d.getD k dSpot).2.2.2.1, insT (d.getD k dSpot).2.2.2.2 x)) : List Spot ⊕ Option Book)) j xs d)
        = nx (IntKind.i64.wrap (i + 1)) (d.set k ((d.getD k dSpot).1, (d.getD k dSpot).2.1, (d.getD k dSpot).2.2.1, (d.getD k dSpot).2.2.2.1, insA (d.getD k dSpot).2.2.2.2 xs)) := by
      intro xs
      induction xs with
      | nil =>
        intro j d hd
        simp only [walkL, outW]
        congr 1
        show d = d.set k (d.getD k dSpot)
        rw [List.getD_eq_getElem?_getD, List.getElem?_eq_getElem hd, Option.getD_some, List.set_getElem_self]
      | cons x xs ih =>
        intro j d hd
        simp only [walkL]
        rw [ih _ _ (by simpa using hd), gS' hd, sS']
        rfl
    exact this w.2.2.1 0 sp hk
def putB (b : Book) (w : Want) : Book := (b.1, w.2.2.2.1.foldl (putS w) b.2.1, b.2.2.1, b.2.2.2.1 ++ [(w, false)], w.1)
theorem putI0 {b : Book} (hb : smB b) (hs : ∀ s ∈ b.2.1, nmsOk s.2.2.2.2 8 = true) : PutI b 0 b.2.1 := by
  refine ⟨rfl, fun s h => ?_⟩
  have h1 := hb.2.1.2 s h
  have h2 := hs s h
  refine ⟨h1.1, nms_asc h2, h1.2.2, ?_⟩
  unfold nmsOk at h2
  simp only [Bool.and_eq_true, Bool.not_eq_true', decide_eq_false_iff_not] at h2
  omega
theorem l3Put {N : Nat} (hN : lim < N) {b : Book} {w : Want} (hb : smB b) (hw : smW w) (hs : ∀ s ∈ b.2.1, nmsOk s.2.2.2.2 8 = true) (hk : knowsB b w = true) (h8 : w.2.2.1.length ≤ 8) (hu : w.2.2.2.1.length ≤ 8) :
    f_91 N b.1 b.2.1 b.2.2.1 b.2.2.2.1 w.1 w = some (putB b w) := by
  have hlim := lim_eq
  have hx : ∀ x ∈ w.2.2.1, smT x := hw.1.2
  have hlp := hb.2.2.2.1
  have hls := hb.2.1.1
  unfold f_91 f_91b
  have := lp_walk w.2.2.2.1 (fun (g : Int → List Spot → Option Book) i (d : List Spot) => g (i : Int) d) (fun _ _ => none) (fun next => f_91_0r N (f_91_2 N next b.1 b.2.2.1 b.2.2.2.1 w.1 w 0) b.1 b.2.2.1 b.2.2.2.1 w.1 w 0 next)
    (fun _ d u => .inl (putS w d u)) (fun d => some (b.1, d, b.2.2.1, b.2.2.2.1 ++ [(w, false)], w.1)) (fun i d => PutI b i d)
    (fun g i d h hi => ⟨by
      obtain ⟨h1, h2⟩ := hi.at hk h
      have hld : d.length ≤ 1048576 := by rw [hi.len]; exact hls
      unfold f_91_0r
      simp only [dlt h, dge, gAt h, cond_true]
      rw [ob_eq (show f_74 N (b.1, d, b.2.2.1, b.2.2.2.1, w.1) w.2.2.2.1[i].1 = some (idxS w.2.2.2.1[i].1 d) from l2Spot hN (b := (b.1, d, b.2.2.1, b.2.2.2.1, w.1)) hld _)]
      have hgood : (d.getD (idxS w.2.2.2.1[i].1 d).toNat dSpot).2.2.2.2.length ≤ 1000 := by
        have := (hi.good _ (getD_mem (show (idxS w.2.2.2.1[i].1 d).toNat < d.length by omega) dSpot)).2.2.2
        omega
      have hp : putS w d w.2.2.2.1[i] = d.set (idxS w.2.2.2.1[i].1 d).toNat (putU w w.2.2.2.1[i] (d.getD (idxS w.2.2.2.1[i].1 d).toNat dSpot)) := rfl
      obtain ⟨k, ek⟩ : ∃ k : Nat, idxS w.2.2.2.1[i].1 d = (k : Int) := ⟨_, (Int.toNat_of_nonneg h1).symm⟩
      rw [ek] at h1 h2 hgood hp ⊢
      rw [Int.toNat_natCast] at hgood hp
      have hkd : k < d.length := by omega
      simp only [dlt hkd, dge, cond_true, List.length_set, gAt', sAt]
      rw [hp]
      unfold putU
      by_cases r1 : w.2.2.2.1[i].2.1 = 1
      · have q1 : (w.2.2.2.1[i].2.1 == 1) = true := by rw [r1]; rfl
        have q2 : (w.2.2.2.1[i].2.1 == 2) = false := by rw [r1]; rfl
        have q3 : (w.2.2.2.1[i].2.1 != 1) = false := by rw [r1]; rfl
        simp only [q1, q2, q3, cond_true, cond_false]
        rw [putStuffs hN (by simpa using hkd) h8 (by rw [gS' hkd]; exact hgood), q3, cond_false, wrS (show i ≤ 1000000000000000000 by omega)]
        rfl
      · have q1 : (w.2.2.2.1[i].2.1 == 1) = false := beq_eq_false_iff_ne.2 r1
        have q3 : (w.2.2.2.1[i].2.1 != 1) = true := by simp [bne, q1]
        by_cases r2 : w.2.2.2.1[i].2.1 = 2
        · have q2 : (w.2.2.2.1[i].2.1 == 2) = true := by rw [r2]; rfl
          simp only [q1, q2, q3, cond_true, cond_false]
          rw [putStuffs hN (by simpa using hkd) h8 (by rw [gS' hkd]; exact hgood), q3, cond_true, wrS (show i ≤ 1000000000000000000 by omega), gS' hkd, sS']
          rfl
        · have q2 : (w.2.2.2.1[i].2.1 == 2) = false := beq_eq_false_iff_ne.2 r2
          simp only [q1, q2, q3, cond_true, cond_false]
          rw [putStuffs hN hkd h8 hgood, q3, cond_true, wrS (show i ≤ 1000000000000000000 by omega)]
          rfl, fun st' hs => by
      cases hs
      exact hi.step _ h8 hx⟩) (fun g d hd => by
      unfold f_91_0r
      rw [dnlt, cond_false, ob_eq (l1Want hw)]
      have hg : decide ((b.2.2.2.1.length + [(w, false)].length) * 120 ≤ lim) = true := decide_eq_true (by simp only [List.length_cons, List.length_nil]; omega)
      rw [hg, cond_true]) N (by omega) b.2.1 (putI0 hb hs)
  refine this.trans ?_
  rw [walk_fold]
  rfl
end Go.MC
namespace Go.MC
open Go.MC.F
theorem first_nonneg {f : Use → Int} {l : List Use} (h : ∀ u, 0 ≤ f u) : 0 ≤ first f l := by
  unfold first
  cases l.find? fun u => f u != 0 with
  | none => exact Int.le_refl 0
  | some u => exact h u
theorem stuffU_nonneg (b : Book) (w : Want) (u : Use) : 0 ≤ stuffU b w u := by
  unfold stuffU
  cases u.2.1 == 2 <;> cases clash b w.2.2.1 (spotAt b u.1).2.2.2.2 <;> cases decide ((unionN (spotAt b u.1).2.2.2.2 w.2.2.1 : Int) > 8) <;> cases (spotAt b u.1).2.2.2.2.all (fun x => w.2.2.1.contains x) <;> decide
theorem amountU_nonneg (b : Book) (w : Want) (u : Use) : 0 ≤ amountU b w u := by
  unfold amountU
  cases u.2.1 == 1 && decide ((spotAt b u.1).2.2.1 < u.2.2) <;> cases u.2.1 == 2 && decide (IntKind.i64.wrap ((spotAt b u.1).2.2.2.1 + u.2.2) > (spotAt b u.1).2.1) <;> cases w.2.1 == 2 && decide ((spotAt b u.1).2.2.2.1 > 0) <;> decide
theorem stuffs_nonneg (b : Book) (w : Want) : 0 ≤ stuffs b w := by
  unfold stuffs
  cases clash b w.2.2.1 w.2.2.1 with
  | true => exact (by decide : (0 : Int) ≤ 8)
  | false =>
    cases w.2.1 == 1 with
    | true => exact first_nonneg (stuffU_nonneg b w)
    | false => exact Int.le_refl 0
theorem amounts_nonneg (b : Book) (w : Want) : 0 ≤ amounts b w := first_nonneg (amountU_nonneg b w)
theorem code_facts (b : Book) (w : Want) : 0 ≤ codeB b w ∧ (5 ≤ codeB b w → partAt b w.1 < 0) ∧ (codeB b w ≠ 1 → bookOk b = true) ∧ (codeB b w = 0 → wantOk w = true ∧ knowsB b w = true) ∧ (codeB b w = 0 → partAt b w.1 < 0 → (b.2.2.2.1.length : Int) < 6) := by
  unfold codeB
  cases bookOk b with
  | false => exact ⟨(by decide : (0 : Int) ≤ 1), fun h => absurd h (by decide : ¬ (5 : Int) ≤ 1), fun h => absurd rfl h, fun h => absurd h (by decide : ¬ (1 : Int) = 0), fun h => absurd h (by decide : ¬ (1 : Int) = 0)⟩
  | true =>
    cases wantOk w with
    | false => exact ⟨(by decide : (0 : Int) ≤ 2), fun h => absurd h (by decide : ¬ (5 : Int) ≤ 2), fun _ => rfl, fun h => absurd h (by decide : ¬ (2 : Int) = 0), fun h => absurd h (by decide : ¬ (2 : Int) = 0)⟩
    | true =>
      cases knowsB b w with
      | false => exact ⟨(by decide : (0 : Int) ≤ 2), fun h => absurd h (by decide : ¬ (5 : Int) ≤ 2), fun _ => rfl, fun h => absurd h (by decide : ¬ (2 : Int) = 0), fun h => absurd h (by decide : ¬ (2 : Int) = 0)⟩
      | true =>
        simp only [Bool.not_true, cond_false]
        by_cases hp : partAt b w.1 ≥ 0
        · rw [decide_eq_true hp, cond_true]
          cases sameW (partG b w.1).1 w with
          | true => exact ⟨(by decide : (0 : Int) ≤ 0), fun h => absurd h (by decide : ¬ (5 : Int) ≤ 0), fun _ => trivial, fun _ => ⟨trivial, trivial⟩, fun _ h => by omega⟩
          | false => exact ⟨(by decide : (0 : Int) ≤ 3), fun h => absurd h (by decide : ¬ (5 : Int) ≤ 3), fun _ => trivial, fun _ => ⟨trivial, trivial⟩, fun _ h => by omega⟩
        · rw [decide_eq_false hp, cond_false]
          refine ⟨?_, fun _ => by omega, fun _ => trivial, fun _ => ⟨trivial, trivial⟩, fun h0 _ => ?_⟩
          · have h1 := stuffs_nonneg b w
            have h2 := amounts_nonneg b w
            cases decide (w.1 ≤ b.2.2.2.2) with
            | true => exact (by decide : (0 : Int) ≤ 4)
            | false =>
              cases decide ((b.2.2.2.1.length : Int) ≥ 6) with
              | true => exact (by decide : (0 : Int) ≤ 5)
              | false =>
                cases b.2.2.2.1.any (fun p => share p.1 w) with
                | true => exact (by decide : (0 : Int) ≤ 6)
                | false =>
                  cases b.2.2.2.1.any (fun p => cross p.1 w) with
                  | true => exact (by decide : (0 : Int) ≤ 7)
                  | false =>
                    cases stuffs b w != 0 with
                    | true => exact h1
                    | false => exact h2
          · by_cases h6 : (b.2.2.2.1.length : Int) ≥ 6
            · rw [decide_eq_true h6] at h0
              cases h4 : decide (w.1 ≤ b.2.2.2.2) with
              | true => rw [h4] at h0; exact absurd h0 (by decide : ¬ (4 : Int) = 0)
              | false => rw [h4] at h0; exact absurd h0 (by decide : ¬ (5 : Int) = 0)
            · omega
def grantB (b : Book) (w : Want) : Book × Int :=
  bif codeB b w == 1 then (([], [], [], [], 0), 1) else
  bif inB (codeB b w) 2 4 then (b, codeB b w) else
  bif decide (partAt b w.1 ≥ 0) then (b, codeB b w) else
  bif codeB b w == 0 then (putB b w, codeB b w) else ((b.1, b.2.1, b.2.2.1, b.2.2.2.1, w.1), codeB b w)
theorem spots_nms {b : Book} (h : bookOk b = true) : ∀ s ∈ b.2.1, nmsOk s.2.2.2.2 8 = true := by
  intro s hs
  simp only [bookOk, spotsOk, Bool.and_eq_true] at h
  obtain ⟨i, hi⟩ := List.getElem?_of_mem hs
  have := allI_iff.1 h.2.2.2.1.2 i s hi
  simp only [spotI, spotOk, Bool.and_eq_true] at this
  exact this.1.2.2.2.2.1
theorem nms_len {l : List Txt} {n : Int} (h : nmsOk l n = true) : (l.length : Int) ≤ n := by
  unfold nmsOk at h
  simp only [Bool.and_eq_true, Bool.not_eq_true', decide_eq_false_iff_not] at h
  omega
theorem want_lens {w : Want} (h : wantOk w = true) : w.2.2.1.length ≤ 8 ∧ w.2.2.2.1.length ≤ 8 := by
  simp only [wantOk, usesOk, Bool.and_eq_true, Bool.not_eq_true', decide_eq_false_iff_not] at h
  have := nms_len h.2.2.2.2.2.2.2.2.1
  have := h.2.2.1.1
  omega
theorem fold_putI {b : Book} {w : Want} (h8 : w.2.2.1.length ≤ 8) (hx : ∀ x ∈ w.2.2.1, smT x) : ∀ (us : List Use) (i : Nat) (sp : List Spot), PutI b i sp → PutI b (i + us.length) (us.foldl (putS w) sp)
  | [], i, sp, h => h
  | u :: us, i, sp, h => by
    have := fold_putI h8 hx us (i + 1) (putS w sp u) (h.step u h8 hx)
    rw [List.foldl_cons, List.length_cons, show i + (us.length + 1) = i + 1 + us.length by omega]
    exact this
theorem put_sm {b : Book} {w : Want} (hb : smB b) (hw : smW w) (hs : bookOk b = true) (hwk : wantOk w = true) (h6 : (b.2.2.2.1.length : Int) < 6) : smB (putB b w) := by
  obtain ⟨h8, hu⟩ := want_lens hwk
  have := fold_putI h8 hw.1.2 w.2.2.2.1 0 b.2.1 (putI0 hb (spots_nms hs))
  refine ⟨hb.1, ⟨?_, fun s h => ?_⟩, hb.2.2.1, ?_, fun p h => ?_⟩
  · show (w.2.2.2.1.foldl (putS w) b.2.1).length ≤ _
    rw [this.len]; exact hb.2.1.1
  · obtain ⟨h1, h2, h3, h4⟩ := this.good s h
    exact ⟨h1, by omega, h3⟩
  · show (b.2.2.2.1 ++ [(w, false)]).length ≤ _
    simp; omega
  · rcases List.mem_append.1 (show p ∈ b.2.2.2.1 ++ [(w, false)] from h) with h | h
    · exact hb.2.2.2.2 p h
    · obtain rfl := List.mem_singleton.1 h
      exact hw
theorem seen_sm {b : Book} (hb : smB b) (n : Int) : smB (b.1, b.2.1, b.2.2.1, b.2.2.2.1, n) := hb
theorem specGrant {N : Nat} (hN : lim < N) {b : Book} {w : Want} (hb : smB b) (hw : smW w) : f_30 N b w = some (grantB b w) := by
  obtain ⟨f1, f2, f3, f4, f5⟩ := code_facts b w
  unfold f_30 grantB
  rw [ob_eq (specCode hN hb hw)]
  cases h1 : codeB b w == 1 with
  | true => rfl
  | false =>
    simp only [cond_false]
    rw [ob_eq (l2Copy hN hb), ob_eq (l1In _ _ _)]
    cases inB (codeB b w) 2 4 with
    | true => rfl
    | false =>
      simp only [cond_false]
      rw [ob_eq (l2Part hN hb _)]
      by_cases hp : partAt b w.1 ≥ 0
      · rw [decide_eq_true hp]; rfl
      · rw [decide_eq_false hp]
        simp only [cond_false]
        cases h0 : codeB b w == 0 with
        | true =>
          have e0 : codeB b w = 0 := beq_iff_eq.1 h0
          obtain ⟨g1, g2⟩ := f4 e0
          have g3 := f3 (by omega)
          have g6 := f5 e0 (by omega)
          obtain ⟨l1, l2⟩ := want_lens g1
          simp only [cond_true]
          rw [ob_eq (l3Put hN hb hw (spots_nms g3) g2 l1 l2), ob_eq (l2Copy hN (put_sm hb hw g3 g1 g6))]
        | false =>
          simp only [cond_false]
          rw [ob_eq (l2Copy hN (seen_sm hb _))]
end Go.MC
namespace Go.MC
open Go.MC.F
theorem wrA (a b : Int) : IntKind.i64.wrap (a + IntKind.i64.wrap b) = IntKind.i64.wrap (a + b) := by
  simp only [IntKind.wrap_i64]; omega
theorem wrB (a b : Int) : IntKind.i64.wrap (IntKind.i64.wrap a + b) = IntKind.i64.wrap (a + b) := by
  simp only [IntKind.wrap_i64]; omega
theorem wrC (a b : Int) : IntKind.i64.wrap (IntKind.i64.wrap a - b) = IntKind.i64.wrap (a - b) := by
  simp only [IntKind.wrap_i64]; omega
theorem wrD (a b : Int) : IntKind.i64.wrap (a - IntKind.i64.wrap b) = IntKind.i64.wrap (a - b) := by
  simp only [IntKind.wrap_i64]; omega
def overU (w : Want) (moved : Int) (done : Bool) (u : Use) (s : Spot) : Spot :=
  (s.1, s.2.1, (bif u.2.1 == 1 then IntKind.i64.wrap (s.2.2.1 + u.2.2 - moved) else bif u.2.1 == 2 then IntKind.i64.wrap (s.2.2.1 + moved) else s.2.2.1),
    (bif u.2.1 == 1 then IntKind.i64.wrap (s.2.2.2.1 - moved) else bif u.2.1 == 2 then IntKind.i64.wrap (s.2.2.2.1 - u.2.2 + moved) else s.2.2.2.1), (bif w.2.1 == 2 then (bif done then [] else s.2.2.2.2) else s.2.2.2.2))
def overS (w : Want) (moved : Int) (done : Bool) (sp : List Spot) (u : Use) : List Spot := sp.set (idxS u.1 sp).toNat (overU w moved done u (sp.getD (idxS u.1 sp).toNat dSpot))
theorem l4Settle {N : Nat} (s : Spot) (w : Want) (u : Use) (moved : Int) (done : Bool) : f_53 N s w u moved done = some (overU w moved done u s) := by
  unfold f_53 overU
  by_cases r1 : u.2.1 = 1
  · have q1 : (u.2.1 == 1) = true := by rw [r1]; rfl
    have q2 : (u.2.1 == 2) = false := by rw [r1]; rfl
    simp only [q1, q2, cond_true, cond_false, wrC]
    cases w.2.1 == 2 <;> cases done <;> rfl
  · have q1 : (u.2.1 == 1) = false := beq_eq_false_iff_ne.2 r1
    simp only [q1, cond_false]
    cases q2 : u.2.1 == 2
    · cases w.2.1 == 2 <;> cases done <;> rfl
    · simp only [cond_true, wrB]
      cases w.2.1 == 2 <;> cases done <;> rfl
def movedU (moved : Int) (u : Use) : Bool := !((u.2.1 != 3) && decide (moved > u.2.2))
def movedOk (w : Want) (moved : Int) : Bool := !decide (moved < 0) && w.2.2.2.1.all (movedU moved)
theorem all_allI {α : Type} (p : α → Bool) (l : List α) : allI (fun _ x => p x) 0 l = l.all p := by
  rw [Bool.eq_iff_iff, allI_iff, List.all_eq_true]
  constructor
  · intro h x hx
    obtain ⟨i, hi⟩ := List.getElem?_of_mem hx
    exact h i x hi
  · intro h j x hx
    exact h x (List.mem_of_getElem? hx)
theorem l4Moved {N : Nat} (hN : lim < N) {w : Want} (hw : smW w) (moved : Int) : f_62 N w moved = some (movedOk w moved) := by
  have hlim := lim_eq
  have h1 := hw.2.1.1
  unfold f_62 f_62b movedOk
  cases decide (moved < 0) with
  | true => rfl
  | false =>
    refine (lp_allI w.2.2.2.1 _ (fun _ u => movedU moved u) (some false) (some true) (fun g i hi => ?_) (fun g => ?_) N (by omega)).trans ?_
    · unfold f_62_0r movedU
      simp only [dlt hi, dge, gAt hi, cond_true, wrS (show i ≤ 1000000000000000000 by omega)]
      cases w.2.2.2.1[i].2.1 != 3 <;> cases decide (moved > w.2.2.2.1[i].2.2) <;> rfl
    · unfold f_62_0r
      rw [dnlt]; rfl
    · rw [all_allI]
      cases w.2.2.2.1.all (movedU moved) <;> rfl
structure OvI (b : Book) (sp : List Spot) : Prop where
  names : sp.map (·.1) = b.2.1.map (·.1)
  good : ∀ s ∈ sp, smS s
theorem OvI.len {b : Book} {sp : List Spot} (h : OvI b sp) : sp.length = b.2.1.length := by
  have := congrArg List.length h.names
  simpa using this
theorem OvI.step {b : Book} {sp : List Spot} (h : OvI b sp) (w : Want) (moved : Int) (done : Bool) (u : Use) : OvI b (overS w moved done sp u) := by
  refine ⟨?_, fun s hs => ?_⟩
  · rw [← h.names]
    refine map_set_same _ fun hk => ?_
    unfold overU
    simp only [List.getD_eq_getElem?_getD, List.getElem?_eq_getElem hk, Option.getD_some]
  · by_cases hk : (idxS u.1 sp).toNat < sp.length
    · rcases List.mem_or_eq_of_mem_set hs with hs | hs
      · exact h.good s hs
      · subst hs
        have hg := h.good _ (getD_mem hk dSpot)
        refine ⟨hg.1, ?_⟩
        unfold overU
        simp only
        cases w.2.1 == 2 <;> cases done
        · exact hg.2
        · exact hg.2
        · exact hg.2
        · exact ⟨by simp, fun x hx => by simp at hx⟩
    · unfold overS at hs
      rw [List.set_eq_of_length_le (by omega)] at hs
      exact h.good s hs
theorem OvI.at {b : Book} {sp : List Spot} (h : OvI b sp) {w : Want} (hk : knowsB b w = true) {j : Nat} (hj : j < w.2.2.2.1.length) : atB b w.2.2.2.1[j].1 = idxS w.2.2.2.1[j].1 sp ∧ 0 ≤ idxS w.2.2.2.1[j].1 sp ∧ idxS w.2.2.2.1[j].1 sp < (sp.length : Int) := by
  have h1 := at_of_knows hk hj
  have e : atB b w.2.2.2.1[j].1 = idxS w.2.2.2.1[j].1 sp := idxS_names h.names.symm _
  rw [← e, h.len]
  exact ⟨rfl, h1⟩
theorem fold_ovI {b : Book} {w : Want} {moved : Int} {done : Bool} : ∀ (us : List Use) (sp : List Spot), OvI b sp → OvI b (us.foldl (overS w moved done) sp)
  | [], sp, h => h
  | u :: us, sp, h => fold_ovI us _ (h.step w moved done u)
def partX (b : Book) (n : Int) : Part := b.2.2.2.1.getD (partAt b n).toNat dPart
def overBk (b : Book) (n : Int) (moved : Int) (done : Bool) : Book :=
  (b.1, (partX b n).1.2.2.2.1.foldl (overS (partX b n).1 moved done) b.2.1, b.2.2.1, b.2.2.2.1.eraseIdx (partAt b n).toNat, b.2.2.2.2)
def overB (b : Book) (n : Int) (moved : Int) (done : Bool) : Book × Int :=
  bif bookOk b then (bif decide (partAt b n < 0) then (b, 3) else bif !movedOk (partX b n).1 moved then (b, 2) else bif !(partX b n).2 then (b, 12) else (overBk b n moved done, 0)) else (([], [], [], [], 0), 1)
theorem part_knows {b : Book} (h : bookOk b = true) {p : Part} (hp : p ∈ b.2.2.2.1) : wantOk p.1 = true ∧ knowsB b p.1 = true := by
  simp only [bookOk, partsOk, Bool.and_eq_true] at h
  obtain ⟨i, hi⟩ := List.getElem?_of_mem hp
  have := allI_iff.1 h.2.2.2.2.2 i p hi
  simp only [partI, partOk, Bool.and_eq_true] at this
  exact ⟨this.1.2.1, this.1.2.2.1⟩
theorem partX_mem {b : Book} {n : Int} (h : 0 ≤ partAt b n) : partX b n ∈ b.2.2.2.1 := by
  have := partAt_lt h
  exact getD_mem (show (partAt b n).toNat < b.2.2.2.1.length by omega) _
theorem over_sm {b : Book} (hb : smB b) (n moved : Int) (done : Bool) : smB (overBk b n moved done) := by
  have hi := fold_ovI (w := (partX b n).1) (moved := moved) (done := done) (partX b n).1.2.2.2.1 b.2.1 (⟨rfl, hb.2.1.2⟩ : OvI b b.2.1)
  refine ⟨hb.1, ⟨?_, hi.good⟩, hb.2.2.1, ?_, fun p hp => hb.2.2.2.2 p (List.mem_of_mem_eraseIdx hp)⟩
  · have := hi.len
    have h2 := hb.2.1.1
    exact Nat.le_trans (Nat.le_of_eq this) h2
  · exact Nat.le_trans (List.length_eraseIdx_le _ _) hb.2.2.2.1
theorem specOver {N : Nat} (hN : lim < N) {b : Book} (hb : smB b) (n moved : Int) (done : Bool) : f_35 N b n moved done = some (overB b n moved done) := by
  have hlim := lim_eq
  have hlp := hb.2.2.2.1
  have hls := hb.2.1.1
  unfold f_35 f_35b overB
  rw [ob_eq (specBookOk hN hb)]
  cases hbk : bookOk b with
  | false => rfl
  | true =>
    simp only [Bool.not_true, cond_false, cond_true]
    rw [ob_eq (l2Copy hN hb), ob_eq (l2Part hN hb n)]
    by_cases h : partAt b n < 0
    · simp only [decide_eq_true h]; rfl
    · have h0 : 0 ≤ partAt b n := by omega
      have h1 : decide (0 ≤ partAt b n) = true := decide_eq_true h0
      have hlt := partAt_lt h0
      have h2 : decide (partAt b n < (b.2.2.2.1.length : Int)) = true := decide_eq_true hlt
      have hx : partX b n ∈ b.2.2.2.1 := partX_mem h0
      have hw : smW (partX b n).1 := hb.2.2.2.2 _ hx
      have hk := (part_knows hbk hx).2
      have hu := hw.2.1.1
      simp only [decide_eq_false h, h1, h2, cond_false, cond_true]
      rw [show b.2.2.2.1.getD (partAt b n).toNat dPart = partX b n from rfl, ob_eq (l4Moved hN hw moved)]
      cases movedOk (partX b n).1 moved with
      | false => rfl
      | true =>
        simp only [Bool.not_true, cond_false]
        cases (partX b n).2 with
        | false => rfl
        | true =>
          simp only [Bool.not_true, cond_false]
          have := lp_walk (partX b n).1.2.2.2.1 (fun (g : Int → List Spot → Option (Book × Int)) i (d : List Spot) => g (i : Int) d) (fun _ _ => none)
            (fun next => f_35_0r N b moved done b (partAt b n) 0 (partX b n).1.1 (partX b n).1.2.1 (partX b n).1.2.2.1 (partX b n).1.2.2.2.1 (partX b n).1.2.2.2.2.1 (partX b n).1.2.2.2.2.2 next)
            (fun _ d u => .inl (overS (partX b n).1 moved done d u)) (fun d => ob (F.f_71 N (b.1, d, b.2.2.1, b.2.2.2.1.eraseIdx (partAt b n).toNat, b.2.2.2.2)) ([], [], [], [], Int.ofNat 0) fun r => some (r, 0)) (fun _ d => OvI b d)
            (fun g i d h hi => ⟨by
              obtain ⟨e0, h1, h2⟩ := hi.at hk h
              unfold f_35_0r
              simp only [dlt h, dge, gAt h, cond_true]
              rw [ob_eq (l2Spot hN hls _), e0]
              have hp : overS (partX b n).1 moved done d (partX b n).1.2.2.2.1[i] = d.set (idxS (partX b n).1.2.2.2.1[i].1 d).toNat (overU (partX b n).1 moved done (partX b n).1.2.2.2.1[i] (d.getD (idxS (partX b n).1.2.2.2.1[i].1 d).toNat dSpot)) := rfl
              simp only [decide_eq_true h1, decide_eq_true h2, cond_true]
              rw [ob_eq (l4Settle _ ((partX b n).1.1, (partX b n).1.2.1, (partX b n).1.2.2.1, (partX b n).1.2.2.2.1, (partX b n).1.2.2.2.2.1, (partX b n).1.2.2.2.2.2) _ _ _), wrS (show i ≤ 1000000000000000000 by omega), hp]
              rfl, fun st' hs => by
              cases hs
              exact hi.step _ _ _ _⟩) (fun g d hd => by
              unfold f_35_0r
              have ew : IntKind.i64.wrap (partAt b n + 1) = partAt b n + 1 := wr (by omega) (by omega)
              have et : (partAt b n + 1).toNat = (partAt b n).toNat + 1 := by omega
              simp only [dnlt, cond_false, h1, ew, decide_eq_true (show partAt b n ≤ (b.2.2.2.1.length : Int) by omega), decide_eq_true (show (0 : Int) ≤ partAt b n + 1 by omega), decide_eq_true (show partAt b n + 1 ≤ (b.2.2.2.1.length : Int) by omega), decide_eq_true (show (b.2.2.2.1.length : Int) ≤ (b.2.2.2.1.length : Int) by omega), cond_true]
              rw [decide_eq_true (by simp; omega), decide_eq_true (by simp; omega), cond_true, cond_true]
              have ee : [] ++ List.drop (Int.toNat 0) (List.take (partAt b n).toNat b.2.2.2.1) ++ List.drop (partAt b n + 1).toNat (List.take (b.2.2.2.1.length : Int).toNat b.2.2.2.1) = b.2.2.2.1.eraseIdx (partAt b n).toNat := by
                rw [et, List.eraseIdx_eq_take_drop_succ]
                simp
              rw [ee]) N (by omega) b.2.1 ⟨rfl, hb.2.1.2⟩
          refine this.trans ?_
          rw [walk_fold]
          exact ob_eq (l2Copy hN (over_sm hb n moved done))
theorem implOver {N : Nat} (hN : lim < N) {b : Book} (hb : smB b) (n moved : Int) (done : Bool) : f_31 N b n moved done = some (overB b n moved done) := by
  have hlim := lim_eq
  have hlp := hb.2.2.2.1
  have hls := hb.2.1.1
  unfold f_31 f_31b overB
  rw [ob_eq (implBookOk hN hb)]
  cases hbk : bookOk b with
  | false => rfl
  | true =>
    simp only [Bool.not_true, cond_false, cond_true]
    rw [ob_eq (implCopy hN hb), ob_eq (implPart hN hb n)]
    by_cases h : partAt b n < 0
    · simp only [decide_eq_true h]; rfl
    · have h0 : 0 ≤ partAt b n := by omega
      have h1 : decide (0 ≤ partAt b n) = true := decide_eq_true h0
      have hlt := partAt_lt h0
      have h2 : decide (partAt b n < (b.2.2.2.1.length : Int)) = true := decide_eq_true hlt
      have hx : partX b n ∈ b.2.2.2.1 := partX_mem h0
      have hw : smW (partX b n).1 := hb.2.2.2.2 _ hx
      have hk := (part_knows hbk hx).2
      have hu := hw.2.1.1
      simp only [decide_eq_false h, h1, h2, cond_false, cond_true]
      rw [show b.2.2.2.1.getD (partAt b n).toNat dPart = partX b n from rfl]
      unfold movedOk
      cases decide (moved < 0) with
      | true => rfl
      | false =>
        simp only [cond_false, Bool.not_false, Bool.true_and]
        refine (lp_allI (partX b n).1.2.2.2.1 _ (fun _ u => movedU moved u) (some (b, 2)) (bif !(partX b n).2 then some (b, 12) else some (overBk b n moved done, 0)) (fun g i hi => ?_) (fun g => ?_) N (by omega)).trans ?_
        · unfold f_31_0r movedU
          simp only [dlt hi, dge, gAt hi, cond_true, wrS (show i ≤ 1000000000000000000 by omega)]
          cases (partX b n).1.2.2.2.1[i].2.1 != 3 <;> cases decide (moved > (partX b n).1.2.2.2.1[i].2.2) <;> rfl
        · unfold f_31_0r
          have ew : IntKind.i64.wrap (partAt b n + 1) = partAt b n + 1 := wr (by omega) (by omega)
          simp only [dnlt, cond_false, h1, h2, ew, cond_true, decide_true, show b.2.2.2.1.getD (partAt b n).toNat dPart = partX b n from rfl]
          cases (partX b n).2 with
          | false => rfl
          | true =>
            simp only [Bool.not_true, cond_false]
            have := lp_walk (partX b n).1.2.2.2.1 (fun (g : Int → List Spot → Option (Book × Int)) i (d : List Spot) => g (i : Int) d) (fun _ _ => none)
              (fun next => f_31_2r N moved done b 0 (partX b n).1.1 (partX b n).1.2.1 (partX b n).1.2.2.1 (partX b n).1.2.2.2.1 (partX b n).1.2.2.2.2.1 (partX b n).1.2.2.2.2.2 ((partX b n).1.2.2.2.1.length : Int) [] [] [] [] (b.2.2.2.1.eraseIdx (partAt b n).toNat) next)
              (fun _ d u => .inl (overS (partX b n).1 moved done d u)) (fun d => some ((b.1, d, b.2.2.1, b.2.2.2.1.eraseIdx (partAt b n).toNat, b.2.2.2.2), 0)) (fun _ d => OvI b d)
              (fun g i d h hi => ⟨by
                obtain ⟨e0, h1, h2⟩ := hi.at hk h
                have hld : d.length ≤ 1048576 := by rw [hi.len]; exact hls
                unfold f_31_2r
                simp only [dlt h, dge, gAt h, cond_true]
                rw [ob_eq (show f_23 N (b.1, d, b.2.2.1, b.2.2.2.1.eraseIdx (partAt b n).toNat, b.2.2.2.2) (partX b n).1.2.2.2.1[i].1 = some (idxS (partX b n).1.2.2.2.1[i].1 d) from implAt hN (b := (b.1, d, b.2.2.1, b.2.2.2.1.eraseIdx (partAt b n).toNat, b.2.2.2.2)) hld _)]
                have hp : overS (partX b n).1 moved done d (partX b n).1.2.2.2.1[i] = d.set (idxS (partX b n).1.2.2.2.1[i].1 d).toNat (overU (partX b n).1 moved done (partX b n).1.2.2.2.1[i] (d.getD (idxS (partX b n).1.2.2.2.1[i].1 d).toNat dSpot)) := rfl
                obtain ⟨k, ek⟩ : ∃ k : Nat, idxS (partX b n).1.2.2.2.1[i].1 d = (k : Int) := ⟨_, (Int.toNat_of_nonneg h1).symm⟩
                rw [ek] at h1 h2 hp ⊢
                rw [Int.toNat_natCast] at hp
                have hkd : k < d.length := by omega
                simp only [dlt hkd, dge, cond_true, List.length_set, gAt', sAt, wrA, wrD, wrS (show i ≤ 1000000000000000000 by omega), gS' hkd, sS']
                rw [hp]
                unfold overU
                have z1 : ∀ a c : Int, a + (c - moved) = a + c - moved := fun a c => by omega
                have z2 : ∀ a c : Int, a - (c - moved) = a - c + moved := fun a c => by omega
                simp only [z1, z2]
                have hself : d = d.set k (d.getD k dSpot) := by
                  rw [List.getD_eq_getElem?_getD, List.getElem?_eq_getElem hkd, Option.getD_some, List.set_getElem_self]
                by_cases r1 : (partX b n).1.2.2.2.1[i].2.1 = 1
                · have q1 : ((partX b n).1.2.2.2.1[i].2.1 == 1) = true := by rw [r1]; rfl
                  have q2 : ((partX b n).1.2.2.2.1[i].2.1 == 2) = false := by rw [r1]; rfl
                  simp only [q1, q2, cond_true, cond_false]
                  cases (partX b n).1.2.1 == 2 <;> cases done <;> rfl
                · have q1 : ((partX b n).1.2.2.2.1[i].2.1 == 1) = false := beq_eq_false_iff_ne.2 r1
                  simp only [q1, cond_false]
                  cases q2 : (partX b n).1.2.2.2.1[i].2.1 == 2
                  · simp only [cond_false]
                    cases (partX b n).1.2.1 == 2 <;> cases done
                    · exact congrArg (g _) hself
                    · exact congrArg (g _) hself
                    · exact congrArg (g _) hself
                    · rfl
                  · simp only [cond_true]
                    cases (partX b n).1.2.1 == 2 <;> cases done <;> rfl, fun st' hs => by
                cases hs
                exact hi.step _ _ _ _⟩) (fun g d hd => by
                unfold f_31_2r
                rw [dnlt]; rfl) N (by omega) b.2.1 ⟨rfl, hb.2.1.2⟩
            refine this.trans ?_
            rw [walk_fold]
            rfl
        · rw [all_allI]
          cases (partX b n).1.2.2.2.1.all (movedU moved) <;> cases (partX b n).2 <;> rfl
theorem overB_sm {b : Book} (hb : smB b) (n moved : Int) (done : Bool) : smB (overB b n moved done).1 := by
  unfold overB
  cases bookOk b with
  | false => exact sm_none
  | true =>
    by_cases h : partAt b n < 0
    · simp only [decide_eq_true h, cond_true]; exact hb
    · simp only [decide_eq_false h, cond_true, cond_false]
      cases movedOk (partX b n).1 moved with
      | false => exact hb
      | true =>
        cases (partX b n).2 with
        | false => exact hb
        | true => exact over_sm hb n moved done
end Go.MC
namespace Go.MC
open Go.MC.F
def stopParts (b : Book) (n : Int) : List Part := b.2.2.2.1.set (Int.toNat (partAt b n)) ((b.2.2.2.1.getD (Int.toNat (partAt b n)) dPart).1, true)
def stopB (b : Book) (n : Int) : Book × Int :=
  bif bookOk b then (bif decide (partAt b n < 0) then (b, 3) else ((b.1, b.2.1, b.2.2.1, stopParts b n, b.2.2.2.2), 0)) else (([], [], [], [], 0), 1)
theorem specStop {N : Nat} (hN : lim < N) {b : Book} (hb : smB b) (n : Int) : f_36 N b n = some (stopB b n) := by
  unfold f_36 stopB
  rw [ob_eq (specBookOk hN hb)]
  cases bookOk b with
  | false => rfl
  | true =>
    simp only [Bool.not_true, cond_false, cond_true]
    rw [ob_eq (l2Copy hN hb), ob_eq (l2Part hN hb n)]
    by_cases h : partAt b n < 0
    · simp only [decide_eq_true h]; rfl
    · have h1 : decide (0 ≤ partAt b n) = true := decide_eq_true (by omega)
      have h2 : decide (partAt b n < (b.2.2.2.1.length : Int)) = true := decide_eq_true (partAt_lt (by omega))
      simp only [decide_eq_false h, h1, h2, cond_false, cond_true]
      rfl
end Go.MC
namespace Go.MC
open Go.MC.F
def wantIn (b : Book) (w : Want) : Prop := w.1 ≤ b.2.2.2.2 ∧ wantOk w = true ∧ knowsB b w = true ∧ ∀ u ∈ w.2.2.2.1, useIn (spotAt b u.1) w u = true
def apart (v w : Want) : Prop := v.1 < w.1 ∧ share w v = false ∧ cross w v = false
structure OkB (b : Book) : Prop where
  foes : foesOk b = true
  valves : nmsOk b.2.2.1 12 = true
  seen : 0 ≤ b.2.2.2.2 ∧ b.2.2.2.2 ≤ 1000000
  sl : b.2.1.length ≤ 8
  so : ∀ s ∈ b.2.1, spotOk b s = true
  sa : Asc (b.2.1.map (·.1))
  pl : b.2.2.2.1.length ≤ 6
  po : ∀ w ∈ b.2.2.2.1.map (·.1), wantIn b w
  pp : (b.2.2.2.1.map (·.1)).Pairwise apart
theorem partOk_iff {b : Book} {p : Part} : partOk b p = true ↔ wantIn b p.1 := by
  unfold partOk wantIn
  simp only [Bool.and_eq_true, Bool.not_eq_true', decide_eq_false_iff_not, List.all_eq_true]
  constructor
  · rintro ⟨h1, h2, h3, h4⟩; exact ⟨by omega, h2, h3, h4⟩
  · rintro ⟨h1, h2, h3, h4⟩; exact ⟨by omega, h2, h3, h4⟩
theorem pw_adj {α : Type} {R : α → α → Prop} (ht : ∀ a b c, R a b → R b c → R a c) {l : List α} (h : ∀ j (hj : j + 1 < l.length), R (l[j]'(by omega)) l[j + 1]) : l.Pairwise R := by
  have h4 : ∀ (k i : Nat) (hj : i + k + 1 < l.length), R (l[i]'(by omega)) l[i + k + 1] := by
    intro k
    induction k with
    | zero => intro i hj; exact h i (by omega)
    | succ k ih =>
      intro i hj
      exact ht _ _ _ (ih i (by omega)) (h (i + (k + 1)) (by omega))
  refine List.pairwise_iff_getElem.2 fun i j hi hj hij => ?_
  have := h4 (j - i - 1) i (by omega)
  simpa only [show i + (j - i - 1) + 1 = j by omega] using this
theorem getD_at {α : Type} {l : List α} {i : Nat} (h : i < l.length) (d : α) : l.getD i d = l[i] := by
  rw [List.getD_eq_getElem?_getD, List.getElem?_eq_getElem h]; rfl
theorem bookOk_iff {b : Book} : bookOk b = true ↔ OkB b := by
  constructor
  · intro h
    simp only [bookOk, spotsOk, partsOk, Bool.and_eq_true, Bool.not_eq_true', decide_eq_false_iff_not] at h
    obtain ⟨h1, h2, h3, ⟨h4, h5⟩, h6, h7⟩ := h
    have hs : ∀ i (hi : i < b.2.1.length), spotI b i b.2.1[i] = true := fun i hi => by
      have := allI_iff.1 h5 i b.2.1[i] (by simp [hi])
      simpa using this
    have hp : ∀ i (hi : i < b.2.2.2.1.length), partI b i b.2.2.2.1[i] = true := fun i hi => by
      have := allI_iff.1 h7 i b.2.2.2.1[i] (by simp [hi])
      simpa using this
    refine ⟨h1, h2, ?_, by omega, fun s hm => ?_, ?_, by omega, fun w hw => ?_, ?_⟩
    · simp only [inB, Bool.and_eq_true, decide_eq_true_eq] at h3
      omega
    · obtain ⟨i, hi, e⟩ := List.mem_iff_getElem.1 hm
      have := hs i hi
      simp only [spotI, Bool.and_eq_true] at this
      rw [← e]; exact this.1
    · refine pw_adj (R := fun a b : Txt => Op.bytesLess a b = true) (fun a b c h1 h2 => less_trans h1 h2) fun j hj => ?_
      rw [List.length_map] at hj
      have := hs (j + 1) hj
      simp only [spotI, Bool.and_eq_true, Bool.or_eq_true, beq_iff_eq] at this
      rcases this.2 with h0 | h0
      · omega
      · rw [show j + 1 - 1 = j by omega, getD_at (show j < b.2.1.length by omega)] at h0
        simpa using h0
    · obtain ⟨p, hm, rfl⟩ := List.mem_map.1 hw
      obtain ⟨i, hi, e⟩ := List.mem_iff_getElem.1 hm
      have := hp i hi
      simp only [partI, Bool.and_eq_true] at this
      rw [← e]; exact partOk_iff.1 this.1
    · have hn : (b.2.2.2.1.map (·.1)).Pairwise fun v w => v.1 < w.1 := by
        refine pw_adj (R := fun v w : Want => v.1 < w.1) (fun a b c h1 h2 => Int.lt_trans h1 h2) fun j hj => ?_
        rw [List.length_map] at hj
        have := hp (j + 1) hj
        simp only [partI, Bool.and_eq_true, Bool.or_eq_true, beq_iff_eq, Bool.not_eq_true', decide_eq_false_iff_not] at this
        rcases this.2.1 with h0 | h0
        · omega
        · rw [show j + 1 - 1 = j by omega, getD_at (show j < b.2.2.2.1.length by omega)] at h0
          simp only [List.getElem_map]
          omega
      refine List.pairwise_iff_getElem.2 fun i j hi hj hij => ?_
      have hn' := List.pairwise_iff_getElem.1 hn i j hi hj hij
      refine ⟨hn', ?_⟩
      simp only [List.length_map] at hi hj
      have := hp j hj
      simp only [partI, Bool.and_eq_true] at this
      have h8 := List.all_eq_true.1 this.2.2 b.2.2.2.1[i] (List.mem_iff_getElem.2 ⟨i, by simp; omega, by simp⟩)
      simp only [Bool.and_eq_true, Bool.not_eq_true'] at h8
      simpa using h8
  · intro h
    obtain ⟨h1, h2, h3, h4, h5, h6, h7, h8, h9⟩ := h
    simp only [bookOk, spotsOk, partsOk, Bool.and_eq_true, Bool.not_eq_true', decide_eq_false_iff_not]
    refine ⟨h1, h2, ?_, ⟨by omega, ?_⟩, by omega, ?_⟩
    · simp only [inB, Bool.and_eq_true, decide_eq_true_eq]; omega
    · refine allI_iff.2 fun j s hj => ?_
      obtain ⟨hj', e⟩ := List.getElem?_eq_some_iff.1 hj
      simp only [spotI, Nat.zero_add, Bool.and_eq_true, Bool.or_eq_true, beq_iff_eq]
      refine ⟨h5 s (List.mem_of_getElem? hj), ?_⟩
      cases j with
      | zero => exact .inl rfl
      | succ j =>
        refine .inr ?_
        rw [show j + 1 - 1 = j by omega, getD_at (show j < b.2.1.length by omega), ← e]
        have := List.pairwise_iff_getElem.1 h6 j (j + 1) (by simp; omega) (by simp; omega) (by omega)
        simpa using this
    · refine allI_iff.2 fun j p hj => ?_
      obtain ⟨hj', e⟩ := List.getElem?_eq_some_iff.1 hj
      have hlt : ∀ i (hi : i < j), apart (b.2.2.2.1[i]'(by omega)).1 p.1 := fun i hi => by
        have := List.pairwise_iff_getElem.1 h9 i j (by simp; omega) (by simp; omega) hi
        simpa [e] using this
      simp only [partI, Nat.zero_add, Bool.and_eq_true, Bool.or_eq_true, beq_iff_eq, Bool.not_eq_true', decide_eq_false_iff_not]
      refine ⟨partOk_iff.2 (h8 _ (List.mem_map.2 ⟨p, List.mem_of_getElem? hj, rfl⟩)), ?_, ?_⟩
      · cases j with
        | zero => exact .inl rfl
        | succ j =>
          refine .inr ?_
          rw [show j + 1 - 1 = j by omega, getD_at (show j < b.2.2.2.1.length by omega)]
          have := (hlt j (by omega)).1
          omega
      · refine List.all_eq_true.2 fun q hq => ?_
        obtain ⟨i, hi, e2⟩ := List.mem_iff_getElem.1 hq
        simp only [List.length_take] at hi
        have := hlt i (by omega)
        rw [← e2]
        simp only [List.getElem_take]
        rw [this.2.1, this.2.2]; rfl
end Go.MC
namespace Go.MC
open Go.MC.F
theorem idxB_mem {α : Type} {p : α → Bool} : ∀ {l : List α} {i : Nat}, 0 ≤ idxB p i l → ∃ j, ∃ hj : j < l.length, idxB p i l = ((i + j : Nat) : Int) ∧ p l[j] = true
  | [], i, h => by simp [idxB] at h
  | x :: xs, i, h => by
    simp only [idxB] at h ⊢
    cases hx : p x with
    | true => exact ⟨0, by simp, by simp, by simpa using hx⟩
    | false =>
      rw [hx] at h
      obtain ⟨j, hj, e1, e2⟩ := idxB_mem (l := xs) (i := i + 1) h
      exact ⟨j + 1, by simpa using hj, by rw [cond_false, e1]; omega, by simpa using e2⟩
theorem idxB_pos {α : Type} {p : α → Bool} {l : List α} {i : Nat} {x : α} (hx : x ∈ l) (hp : p x = true) : 0 ≤ idxB p i l := by
  have := idxB_nonneg p l i
  rw [List.any_eq_true.2 ⟨x, hx, hp⟩] at this
  exact of_decide_eq_true this
theorem asc_inj {α : Type} {f : α → Txt} {l : List α} (h : Asc (l.map f)) {i j : Nat} (hi : i < l.length) (hj : j < l.length) (e : f l[i] = f l[j]) : i = j := by
  have h2 := List.pairwise_iff_getElem.1 h
  rcases Nat.lt_trichotomy i j with c | c | c
  · have := h2 i j (by simpa using hi) (by simpa using hj) c
    simp only [List.getElem_map] at this
    rw [e, less_irrefl] at this; cases this
  · exact c
  · have := h2 j i (by simpa using hj) (by simpa using hi) c
    simp only [List.getElem_map] at this
    rw [e, less_irrefl] at this; cases this
theorem idxS_at {sp : List Spot} {n : Txt} (h : n ∈ sp.map (·.1)) : ∃ k, ∃ hk : k < sp.length, idxS n sp = (k : Int) ∧ sp[k].1 = n := by
  obtain ⟨s, hs, e⟩ := List.mem_map.1 h
  obtain ⟨j, hj, e1, e2⟩ := idxB_mem (p := fun s : Spot => s.1 == n) (l := sp) (i := 0) (idxB_pos hs (by simpa using e))
  exact ⟨j, hj, by unfold idxS; rw [e1]; omega, by simpa using e2⟩
theorem spotAt_eq {b : Book} (ha : Asc (b.2.1.map (·.1))) {s : Spot} (hs : s ∈ b.2.1) : spotAt b s.1 = s := by
  obtain ⟨k, hk, e1, e2⟩ := idxS_at (List.mem_map.2 ⟨s, hs, rfl⟩)
  obtain ⟨j, hj, e⟩ := List.mem_iff_getElem.1 hs
  have : k = j := asc_inj ha hk hj (by rw [e2, e])
  subst this
  unfold spotAt
  rw [show atB b s.1 = (k : Int) from e1, Int.toNat_natCast, getD_at hk, e]
theorem spotAt_in {b : Book} {n : Txt} (h : 0 ≤ atB b n) : spotAt b n ∈ b.2.1 ∧ (spotAt b n).1 = n := by
  obtain ⟨j, hj, e1, e2⟩ := idxB_mem (p := fun s : Spot => s.1 == n) (l := b.2.1) (i := 0) h
  have e : spotAt b n = b.2.1[j] := by
    unfold spotAt
    rw [show atB b n = ((0 + j : Nat) : Int) from e1, Int.toNat_natCast, Nat.zero_add, getD_at hj]
  rw [e]
  exact ⟨List.getElem_mem hj, by simpa using e2⟩
theorem at_mem {b : Book} {n : Txt} : 0 ≤ atB b n ↔ n ∈ b.2.1.map (·.1) := by
  constructor
  · intro h
    exact List.mem_map.2 ⟨_, (spotAt_in h).1, (spotAt_in h).2⟩
  · intro h
    obtain ⟨s, hs, e⟩ := List.mem_map.1 h
    exact idxB_pos hs (by simpa using e)
def upd (f : Use → Spot → Spot) (sp : List Spot) (u : Use) : List Spot := sp.set (idxS u.1 sp).toNat (f u (sp.getD (idxS u.1 sp).toNat dSpot))
def turn {β : Type} (f : Use → Txt × β → Txt × β) (us : List Use) (s : Txt × β) : Txt × β := us.foldl (fun s u => bif s.1 == u.1 then f u s else s) s
theorem upd_eq {f : Use → Spot → Spot} {sp : List Spot} (ha : Asc (sp.map (·.1))) {u : Use} (hu : u.1 ∈ sp.map (·.1)) : upd f sp u = sp.map fun s => bif s.1 == u.1 then f u s else s := by
  obtain ⟨k, hk, e1, e2⟩ := idxS_at hu
  unfold upd
  rw [e1, Int.toNat_natCast, getD_at hk]
  refine List.ext_getElem (by simp) fun i h1 h2 => ?_
  simp only [List.length_set] at h1
  rw [List.getElem_set, List.getElem_map]
  by_cases hki : k = i
  · subst hki
    rw [if_pos rfl, e2]; simp
  · rw [if_neg hki]
    have : (sp[i].1 == u.1) = false := beq_eq_false_iff_ne.2 fun e => hki (asc_inj ha hk h1 (by rw [e2, e]))
    rw [this]; rfl
theorem upd_fold {f : Use → Spot → Spot} (hf : ∀ u s, (f u s).1 = s.1) : ∀ (us : List Use) {sp : List Spot}, Asc (sp.map (·.1)) → (∀ u ∈ us, u.1 ∈ sp.map (·.1)) → us.foldl (upd f) sp = sp.map (turn f us)
  | [], sp, _, _ => by
    rw [show turn f [] = id from rfl]; simp
  | u :: us, sp, ha, hu => by
    have e := upd_eq (f := f) ha (hu u (by simp))
    have hn : (upd f sp u).map (·.1) = sp.map (·.1) := by
      rw [e, List.map_map]
      refine List.map_congr_left fun s _ => ?_
      simp only [Function.comp]
      cases s.1 == u.1
      · rfl
      · exact hf u s
    rw [List.foldl_cons, upd_fold hf us (by rw [hn]; exact ha) (fun v hv => by rw [hn]; exact hu v (by simp [hv])), e, List.map_map]
    rfl
theorem turn_name {β : Type} {f : Use → Txt × β → Txt × β} (hf : ∀ u s, (f u s).1 = s.1) : ∀ (us : List Use) (s : Txt × β), (turn f us s).1 = s.1
  | [], s => rfl
  | u :: us, s => by
    show (turn f us (bif s.1 == u.1 then f u s else s)).1 = _
    rw [turn_name hf us]
    cases s.1 == u.1
    · rfl
    · exact hf u s
theorem turn_not {β : Type} {f : Use → Txt × β → Txt × β} : ∀ {us : List Use} {s : Txt × β}, (∀ u ∈ us, u.1 ≠ s.1) → turn f us s = s
  | [], s, _ => rfl
  | u :: us, s, h => by
    show turn f us (bif s.1 == u.1 then f u s else s) = _
    have : (s.1 == u.1) = false := beq_eq_false_iff_ne.2 fun e => h u (by simp) e.symm
    rw [this]
    exact turn_not fun v hv => h v (by simp [hv])
theorem turn_in {β : Type} {f : Use → Txt × β → Txt × β} (hf : ∀ u s, (f u s).1 = s.1) : ∀ {us : List Use} {s : Txt × β} {u : Use}, Asc (us.map (·.1)) → u ∈ us → u.1 = s.1 → turn f us s = f u s
  | v :: us, s, u, ha, hu, e => by
    obtain ⟨h1, h2⟩ := List.pairwise_cons.1 ha
    show turn f us (bif s.1 == v.1 then f v s else s) = _
    rcases List.mem_cons.1 hu with rfl | hu
    · have : (s.1 == u.1) = true := by simp [e]
      rw [this, cond_true]
      refine turn_not fun w hw e2 => ?_
      have := h1 w.1 (List.mem_map.2 ⟨w, hw, rfl⟩)
      rw [e2, hf, ← e, less_irrefl] at this
      cases this
    · have : (s.1 == v.1) = false := beq_eq_false_iff_ne.2 fun e2 => by
        have := h1 u.1 (List.mem_map.2 ⟨u, hu, rfl⟩)
        rw [e, e2, less_irrefl] at this
        cases this
      rw [this, cond_false]
      exact turn_in hf h2 hu e
theorem uses_asc {w : Want} (h : wantOk w = true) : Asc (w.2.2.2.1.map (·.1)) := by
  simp only [wantOk, usesOk, Bool.and_eq_true] at h
  have h2 := allI_iff.1 h.2.2.1.2
  refine pw_adj (R := fun a b : Txt => Op.bytesLess a b = true) (fun a b c h1 h2 => less_trans h1 h2) fun j hj => ?_
  rw [List.length_map] at hj
  have := h2 (j + 1) w.2.2.2.1[j + 1] (by simp [hj])
  simp only [useOk, Nat.zero_add, Bool.and_eq_true, Bool.or_eq_true, beq_iff_eq] at this
  rcases this.2.1 with h0 | h0
  · omega
  · rw [show j + 1 - 1 = j by omega, getD_at (show j < w.2.2.2.1.length by omega)] at h0
    simpa using h0
theorem use_facts {w : Want} (h : wantOk w = true) {u : Use} (hu : u ∈ w.2.2.2.1) : (u.2.1 = 3 ∧ u.2.2 = 0) ∨ ((u.2.1 = 1 ∨ u.2.1 = 2) ∧ w.2.1 = 1 ∧ 1 ≤ u.2.2 ∧ u.2.2 ≤ 1000) := by
  simp only [wantOk, usesOk, Bool.and_eq_true] at h
  obtain ⟨i, hi⟩ := List.getElem?_of_mem hu
  have := allI_iff.1 h.2.2.1.2 i u hi
  simp only [useOk, Nat.zero_add, Bool.and_eq_true, inB, decide_eq_true_eq] at this
  obtain ⟨_, _, ⟨h1, h2⟩, h3⟩ := this
  by_cases h4 : u.2.1 = 3
  · rw [h4] at h3
    exact .inl ⟨h4, by simpa using h3⟩
  · rw [beq_eq_false_iff_ne.2 h4, cond_false] at h3
    simp only [Bool.and_eq_true, beq_iff_eq, decide_eq_true_eq] at h3
    exact .inr ⟨by omega, h3.1, h3.2.1, h3.2.2⟩
theorem spotOk_iff {b : Book} {s : Spot} : spotOk b s = true ↔ nmOk s.1 = true ∧ (0 ≤ s.2.1 ∧ s.2.1 ≤ 1000) ∧ (0 ≤ s.2.2.1 ∧ s.2.2.1 ≤ s.2.2.2.1 ∧ s.2.2.2.1 ≤ s.2.1) ∧ nmsOk s.2.2.2.2 8 = true ∧ clash b s.2.2.2.2 s.2.2.2.2 = false := by
  unfold spotOk inB
  simp only [Bool.and_eq_true, decide_eq_true_eq, Bool.not_eq_true', decide_eq_false_iff_not]
  constructor
  · rintro ⟨h1, h2, h3, h4, h5, h6⟩; exact ⟨h1, by omega, by omega, h5, h6⟩
  · rintro ⟨h1, h2, h3, h5, h6⟩; exact ⟨h1, by omega, by omega, by omega, h5, h6⟩
theorem useIn_iff {s : Spot} {w : Want} {u : Use} : useIn s w u = true ↔ (w.2.1 = 2 → s.2.2.2.1 ≤ 0) ∧ (w.2.1 = 1 → u.2.1 ≠ 2 → ∀ x ∈ s.2.2.2.2, x ∈ w.2.2.1) ∧ (w.2.1 = 1 → u.2.1 ≠ 1 → ∀ x ∈ w.2.2.1, x ∈ s.2.2.2.2) ∧ IntKind.i64.wrap (s.2.2.1 + u.2.2) ≤ s.2.2.2.1 := by
  unfold useIn
  simp only [Bool.and_eq_true, Bool.not_eq_true', Bool.and_eq_false_iff, decide_eq_true_eq, decide_eq_false_iff_not, beq_eq_false_iff_ne, Bool.not_eq_false', beq_iff_eq, List.all_eq_true, List.contains_iff_mem]
  constructor
  · rintro ⟨h1, h2, h3, h4⟩
    refine ⟨fun e => ?_, fun e n => ?_, fun e n => ?_, h4⟩
    · rcases h1 with h | h
      · exact absurd e h
      · omega
    · rcases h2 with h | h | h
      · exact absurd e h
      · exact absurd h n
      · exact h
    · rcases h3 with h | h | h
      · exact absurd e h
      · exact absurd h n
      · exact h
  · rintro ⟨h1, h2, h3, h4⟩
    refine ⟨?_, ?_, ?_, h4⟩
    · by_cases e : w.2.1 = 2
      · exact .inr (by have := h1 e; omega)
      · exact .inl e
    · by_cases e : w.2.1 = 1
      · by_cases n : u.2.1 = 2
        · exact .inr (.inl n)
        · exact .inr (.inr (h2 e n))
      · exact .inl e
    · by_cases e : w.2.1 = 1
      · by_cases n : u.2.1 = 1
        · exact .inr (.inl n)
        · exact .inr (.inr (h3 e n))
      · exact .inl e
theorem knows_names {b c : Book} (hn : c.2.1.map (·.1) = b.2.1.map (·.1)) (hv : c.2.2.1 = b.2.2.1) (w : Want) : knowsB c w = knowsB b w := by
  unfold knowsB
  rw [hv, show (fun u : Use => !decide (atB c u.1 < 0)) = fun u => !decide (atB b u.1 < 0) from funext fun u => by rw [show atB c u.1 = atB b u.1 from idxS_names hn u.1]]
theorem knows_at {b : Book} {w : Want} (h : knowsB b w = true) {u : Use} (hu : u ∈ w.2.2.2.1) : 0 ≤ atB b u.1 := by
  simp only [knowsB, Bool.and_eq_true] at h
  have := List.all_eq_true.1 h.1 u hu
  simp only [Bool.not_eq_true', decide_eq_false_iff_not] at this
  omega
theorem spotAt_map {b c : Book} {g : Spot → Spot} (hg : ∀ s, (g s).1 = s.1) (hc : c.2.1 = b.2.1.map g) (ha : Asc (b.2.1.map (·.1))) {n : Txt} (h : 0 ≤ atB b n) : spotAt c n = g (spotAt b n) := by
  obtain ⟨h1, h2⟩ := spotAt_in h
  have hn : c.2.1.map (·.1) = b.2.1.map (·.1) := by
    rw [hc, List.map_map]; exact List.map_congr_left fun s _ => hg s
  have hm : g (spotAt b n) ∈ c.2.1 := by rw [hc]; exact List.mem_map.2 ⟨_, h1, rfl⟩
  have := spotAt_eq (by rw [hn]; exact ha) hm
  rwa [hg, h2] at this
theorem share_not {v w : Want} (h : share w v = false) {u : Use} (hu : u ∈ v.2.2.2.1) : ∀ x ∈ w.2.2.2.1, x.1 ≠ u.1 := by
  intro x hx e
  unfold share at h
  have := List.any_eq_false.1 h x hx
  exact this (List.any_eq_true.2 ⟨u, hu, by simpa using e⟩)
theorem wantIn_turn {b c : Book} {f : Use → Spot → Spot} (hf : ∀ u s, (f u s).1 = s.1) {us : List Use} (hc : c.2.1 = b.2.1.map (turn f us)) (hv : c.2.2.1 = b.2.2.1) (ha : Asc (b.2.1.map (·.1))) {v : Want} (h : wantIn b v) (hs : v.1 ≤ c.2.2.2.2)
    (hn : ∀ u ∈ v.2.2.2.1, ∀ x ∈ us, x.1 ≠ u.1) : wantIn c v := by
  obtain ⟨h1, h2, h3, h4⟩ := h
  have hnm : c.2.1.map (·.1) = b.2.1.map (·.1) := by
    rw [hc, List.map_map]; exact List.map_congr_left fun s _ => turn_name hf us s
  refine ⟨hs, h2, by rw [knows_names hnm hv]; exact h3, fun u hu => ?_⟩
  have h0 := knows_at h3 hu
  rw [spotAt_map (turn_name hf us) hc ha h0, turn_not fun x hx => by rw [(spotAt_in h0).2]; exact hn u hu x hx]
  exact h4 u hu
theorem stop_ok {b : Book} {n : Int} (h : bookOk b = true) : bookOk (stopB b n).1 = true := by
  unfold stopB
  rw [h, cond_true]
  by_cases hp : partAt b n < 0
  · rw [decide_eq_true hp, cond_true]; exact h
  · rw [decide_eq_false hp, cond_false]
    have o := bookOk_iff.1 h
    have e : (stopParts b n).map (·.1) = b.2.2.2.1.map (·.1) := by
      unfold stopParts
      exact map_set_same _ fun hk => by rw [getD_at hk]
    refine bookOk_iff.2 ⟨o.foes, o.valves, o.seen, o.sl, o.so, o.sa, ?_, ?_, ?_⟩
    · show (stopParts b n).length ≤ 6
      have := congrArg List.length e
      simp only [List.length_map] at this
      rw [this]; exact o.pl
    · show ∀ w ∈ (stopParts b n).map (·.1), _
      rw [e]; exact o.po
    · show ((stopParts b n).map (·.1)).Pairwise _
      rw [e]; exact o.pp
theorem map_erase {α β : Type} (f : α → β) : ∀ (l : List α) (k : Nat), (l.eraseIdx k).map f = (l.map f).eraseIdx k
  | [], _ => rfl
  | _ :: _, 0 => rfl
  | x :: l, k + 1 => by simp only [List.eraseIdx_cons_succ, List.map_cons, map_erase f l k]
theorem overU_name (w : Want) (moved : Int) (done : Bool) (u : Use) (s : Spot) : (overU w moved done u s).1 = s.1 := rfl
theorem over_spot {b : Book} {s : Spot} {w : Want} {u : Use} {moved : Int} {done : Bool} (hs : spotOk b s = true) (hw : wantOk w = true) (hu : u ∈ w.2.2.2.1) (hi : useIn s w u = true) (hm : movedOk w moved = true) : spotOk b (overU w moved done u s) = true := by
  obtain ⟨a1, a2, a3, a4, a5⟩ := spotOk_iff.1 hs
  obtain ⟨i1, i2, i3, i4⟩ := useIn_iff.1 hi
  unfold movedOk at hm
  simp only [Bool.and_eq_true, Bool.not_eq_true', decide_eq_false_iff_not] at hm
  have hmv := List.all_eq_true.1 hm.2 u hu
  unfold movedU at hmv
  have may : nmsOk (overU w moved done u s).2.2.2.2 8 = true ∧ clash b (overU w moved done u s).2.2.2.2 (overU w moved done u s).2.2.2.2 = false := by
    unfold overU
    simp only
    cases w.2.1 == 2
    · exact ⟨a4, a5⟩
    · cases done
      · exact ⟨a4, a5⟩
      · refine ⟨rfl, ?_⟩
        unfold clash
        simp
  refine spotOk_iff.2 ⟨a1, a2, ?_, may⟩
  unfold overU
  simp only
  rcases use_facts hw hu with ⟨e1, e2⟩ | ⟨e1, e2, e3, e4⟩
  · rw [e1, show ((3 : Int) == 1) = false from rfl, show ((3 : Int) == 2) = false from rfl]
    exact a3
  · have hmu : moved ≤ u.2.2 := by
      have : (u.2.1 != 3) = true := by rcases e1 with e | e <;> rw [e] <;> rfl
      rw [this] at hmv
      simp only [Bool.true_and, Bool.not_eq_true', decide_eq_false_iff_not] at hmv
      omega
    rw [wr (by omega) (by omega)] at i4
    rcases e1 with e | e
    · rw [e, show ((1 : Int) == 1) = true from rfl]
      simp only [cond_true]
      rw [wr (by omega) (by omega), wr (by omega) (by omega)]
      omega
    · rw [e, show ((2 : Int) == 1) = false from rfl, show ((2 : Int) == 2) = true from rfl]
      simp only [cond_true, cond_false]
      rw [wr (by omega) (by omega), wr (by omega) (by omega)]
      omega
theorem over_spots {b : Book} (o : OkB b) {w : Want} (hw : wantIn b w) (moved : Int) (done : Bool) : w.2.2.2.1.foldl (overS w moved done) b.2.1 = b.2.1.map (turn (overU w moved done) w.2.2.2.1) :=
  upd_fold (f := overU w moved done) (overU_name w moved done) w.2.2.2.1 o.sa fun u hu => at_mem.1 (knows_at hw.2.2.1 hu)
theorem overBk_ok {b : Book} {n moved : Int} {done : Bool} (h : bookOk b = true) (hp : 0 ≤ partAt b n) (hm : movedOk (partX b n).1 moved = true) : bookOk (overBk b n moved done) = true := by
  have o := bookOk_iff.1 h
  have hx := partX_mem hp
  have hw := o.po _ (List.mem_map.2 ⟨_, hx, rfl⟩)
  have hlt := partAt_lt hp
  have ex : (overBk b n moved done).2.1 = _ := over_spots o hw moved done
  have hk : (partAt b n).toNat < b.2.2.2.1.length := by omega
  have hxk : partX b n = b.2.2.2.1[(partAt b n).toNat] := getD_at hk _
  have em : (b.2.2.2.1.eraseIdx (partAt b n).toNat).map (·.1) = (b.2.2.2.1.map (·.1)).eraseIdx (partAt b n).toNat := map_erase _ _ _
  refine bookOk_iff.2 ⟨o.foes, o.valves, o.seen, ?_, ?_, ?_, ?_, ?_, ?_⟩
  · rw [ex, List.length_map]; exact o.sl
  · rw [ex]
    intro t ht
    obtain ⟨s, hs, rfl⟩ := List.mem_map.1 ht
    have hso := o.so s hs
    show spotOk b _ = true
    by_cases hc : ∃ u ∈ (partX b n).1.2.2.2.1, u.1 = s.1
    · obtain ⟨u, hu, eu⟩ := hc
      rw [turn_in (overU_name _ _ _) (uses_asc hw.2.1) hu eu]
      have := hw.2.2.2 u hu
      rw [eu, spotAt_eq o.sa hs] at this
      exact over_spot hso hw.2.1 hu this hm
    · rw [turn_not fun u hu eu => hc ⟨u, hu, eu⟩]; exact hso
  · rw [ex, List.map_map, show ((fun s : Spot => s.1) ∘ turn (overU (partX b n).1 moved done) (partX b n).1.2.2.2.1) = fun s => s.1 from funext fun s => turn_name (overU_name _ _ _) _ s]
    exact o.sa
  · exact Nat.le_trans (List.length_eraseIdx_le _ _) o.pl
  · show ∀ v ∈ (b.2.2.2.1.eraseIdx (partAt b n).toNat).map (·.1), wantIn (overBk b n moved done) v
    rw [em]
    intro v hv
    obtain ⟨i, hi, hne, ev⟩ := List.mem_eraseIdx_iff_getElem.1 hv
    have hvm : v ∈ b.2.2.2.1.map (·.1) := by rw [← ev]; exact List.getElem_mem hi
    have hvw := o.po v hvm
    have hsh : share (partX b n).1 v = false := by
      have hpw := List.pairwise_iff_getElem.1 o.pp
      have exm : (b.2.2.2.1.map (·.1))[(partAt b n).toNat]'(by simpa using hk) = (partX b n).1 := by rw [List.getElem_map, hxk]
      rcases Nat.lt_or_gt_of_ne hne with c | c
      · have := (hpw i (partAt b n).toNat hi (by simpa using hk) c).2.1
        rwa [exm, ev] at this
      · have := (hpw (partAt b n).toNat i (by simpa using hk) hi c).2.1
        rwa [exm, ev, share_comm] at this
    exact wantIn_turn (f := overU (partX b n).1 moved done) (overU_name _ _ _) ex rfl o.sa hvw hvw.1 fun u hu => share_not hsh hu
  · show ((b.2.2.2.1.eraseIdx (partAt b n).toNat).map (·.1)).Pairwise _
    rw [em]
    exact o.pp.sublist (List.eraseIdx_sublist _ _)
theorem over_ok {b : Book} {n moved : Int} {done : Bool} (h : bookOk b = true) : bookOk (overB b n moved done).1 = true := by
  unfold overB
  rw [h, cond_true]
  by_cases hp : partAt b n < 0
  · rw [decide_eq_true hp, cond_true]; exact h
  · rw [decide_eq_false hp, cond_false]
    cases hm : movedOk (partX b n).1 moved with
    | false => exact h
    | true =>
      cases (partX b n).2 with
      | false => exact h
      | true => exact overBk_ok h (by omega) hm
end Go.MC
namespace Go.MC
open Go.MC.F
theorem nms_iff {l : List Txt} {n : Int} : nmsOk l n = true ↔ (l.length : Int) ≤ n ∧ (∀ x ∈ l, nmOk x = true) ∧ Asc l := by
  constructor
  · intro h
    refine ⟨nms_len h, fun x hx => ?_, nms_asc h⟩
    unfold nmsOk at h
    simp only [Bool.and_eq_true] at h
    obtain ⟨i, hi⟩ := List.getElem?_of_mem hx
    have := allI_iff.1 h.2 i x hi
    simp only [Bool.and_eq_true] at this
    exact this.1
  · rintro ⟨h1, h2, h3⟩
    unfold nmsOk
    simp only [Bool.and_eq_true, Bool.not_eq_true', decide_eq_false_iff_not]
    refine ⟨by omega, allI_iff.2 fun j x hj => ?_⟩
    obtain ⟨hj', e⟩ := List.getElem?_eq_some_iff.1 hj
    simp only [Bool.and_eq_true, Nat.zero_add, ascI, Bool.or_eq_true, beq_iff_eq]
    refine ⟨h2 x (List.mem_of_getElem? hj), ?_⟩
    cases j with
    | zero => exact .inl rfl
    | succ j =>
      refine .inr ?_
      rw [show j + 1 - 1 = j by omega, getD_at (show j < l.length by omega), ← e]
      exact List.pairwise_iff_getElem.1 h3 j (j + 1) (by omega) hj' (by omega)
theorem clash_no {b : Book} {x y : List Txt} : clash b x y = false ↔ ∀ f ∈ b.1, ¬ (f.1 ∈ x ∧ f.2 ∈ y) ∧ ¬ (f.2 ∈ x ∧ f.1 ∈ y) := by
  unfold clash
  rw [List.any_eq_false]
  refine ⟨fun h f hf => ?_, fun h f hf => ?_⟩
  · have := h f hf
    simp only [Bool.or_eq_true, Bool.and_eq_true, List.contains_iff_mem, not_or] at this
    exact this
  · have := h f hf
    simp only [Bool.or_eq_true, Bool.and_eq_true, List.contains_iff_mem, not_or]
    exact this
theorem first_zero {f : Use → Int} {l : List Use} (h : first f l = 0) : ∀ u ∈ l, f u = 0 := by
  intro u hu
  unfold first at h
  cases hf : l.find? fun u => f u != 0 with
  | none =>
    have := List.find?_eq_none.1 hf u hu
    simpa using this
  | some v =>
    have h2 := List.find?_some hf
    rw [hf] at h
    simp only [Option.map_some, Option.getD_some] at h
    rw [h] at h2
    cases h2
structure Free (b : Book) (w : Want) : Prop where
  ok : bookOk b = true
  wok : wantOk w = true
  kn : knowsB b w = true
  seen : b.2.2.2.2 < w.1
  six : b.2.2.2.1.length < 6
  sh : ∀ p ∈ b.2.2.2.1, share p.1 w = false
  cr : ∀ p ∈ b.2.2.2.1, cross p.1 w = false
  cl : clash b w.2.2.1 w.2.2.1 = false
  st : w.2.1 = 1 → ∀ u ∈ w.2.2.2.1, stuffU b w u = 0
  am : ∀ u ∈ w.2.2.2.1, amountU b w u = 0
theorem code_free {b : Book} {w : Want} (h : codeB b w = 0) (hp : partAt b w.1 < 0) : Free b w := by
  unfold codeB at h
  cases h1 : bookOk b with
  | false => rw [h1] at h; exact absurd h (by decide : ¬ (1 : Int) = 0)
  | true =>
  cases h2 : wantOk w with
  | false => rw [h1, h2] at h; exact absurd h (by decide : ¬ (2 : Int) = 0)
  | true =>
  cases h3 : knowsB b w with
  | false => rw [h1, h2, h3] at h; exact absurd h (by decide : ¬ (2 : Int) = 0)
  | true =>
  rw [h1, h2, h3, decide_eq_false (show ¬ partAt b w.1 ≥ 0 by omega)] at h
  simp only [Bool.not_true, cond_false] at h
  by_cases h4 : w.1 ≤ b.2.2.2.2
  · rw [decide_eq_true h4] at h; exact absurd h (by decide : ¬ (4 : Int) = 0)
  rw [decide_eq_false h4, cond_false] at h
  by_cases h5 : (b.2.2.2.1.length : Int) ≥ 6
  · rw [decide_eq_true h5] at h; exact absurd h (by decide : ¬ (5 : Int) = 0)
  rw [decide_eq_false h5, cond_false] at h
  cases h6 : b.2.2.2.1.any fun p => share p.1 w with
  | true => rw [h6] at h; exact absurd h (by decide : ¬ (6 : Int) = 0)
  | false =>
  cases h7 : b.2.2.2.1.any fun p => cross p.1 w with
  | true => rw [h6, h7] at h; exact absurd h (by decide : ¬ (7 : Int) = 0)
  | false =>
  rw [h6, h7] at h
  simp only [cond_false] at h
  have h8 : stuffs b w = 0 ∧ amounts b w = 0 := by
    cases hs : stuffs b w != 0 with
    | true =>
      rw [hs, cond_true] at h
      rw [h] at hs; cases hs
    | false =>
      rw [hs, cond_false] at h
      exact ⟨by simpa using hs, h⟩
  obtain ⟨h8, h9⟩ := h8
  unfold stuffs at h8
  refine ⟨h1, h2, h3, by omega, by omega, fun p hq => ?_, fun p hq => ?_, ?_, fun e => ?_, first_zero h9⟩
  · have := List.any_eq_false.1 h6 p hq; simpa using this
  · have := List.any_eq_false.1 h7 p hq; simpa using this
  · cases hc : clash b w.2.2.1 w.2.2.1 with
    | false => rfl
    | true => rw [hc] at h8; exact absurd h8 (by decide : ¬ (8 : Int) = 0)
  · cases hc : clash b w.2.2.1 w.2.2.1 with
    | true => rw [hc] at h8; exact absurd h8 (by decide : ¬ (8 : Int) = 0)
    | false =>
      rw [hc, e] at h8
      exact first_zero h8
theorem code_five {b : Book} {w : Want} (h : 5 ≤ codeB b w) : bookOk b = true ∧ wantOk w = true ∧ b.2.2.2.2 < w.1 := by
  unfold codeB at h
  cases h1 : bookOk b with
  | false => rw [h1] at h; exact absurd h (by decide : ¬ (5 : Int) ≤ 1)
  | true =>
  cases h2 : wantOk w with
  | false => rw [h1, h2] at h; exact absurd h (by decide : ¬ (5 : Int) ≤ 2)
  | true =>
  cases h3 : knowsB b w with
  | false => rw [h1, h2, h3] at h; exact absurd h (by decide : ¬ (5 : Int) ≤ 2)
  | true =>
  rw [h1, h2, h3] at h
  simp only [Bool.not_true, cond_false] at h
  by_cases hp : partAt b w.1 ≥ 0
  · rw [decide_eq_true hp, cond_true] at h
    cases hs : sameW (partG b w.1).1 w with
    | true => rw [hs] at h; exact absurd h (by decide : ¬ (5 : Int) ≤ 0)
    | false => rw [hs] at h; exact absurd h (by decide : ¬ (5 : Int) ≤ 3)
  · rw [decide_eq_false hp, cond_false] at h
    by_cases h4 : w.1 ≤ b.2.2.2.2
    · rw [decide_eq_true h4] at h; exact absurd h (by decide : ¬ (5 : Int) ≤ 4)
    · exact ⟨rfl, rfl, by omega⟩
theorem want_stuffs {w : Want} (h : wantOk w = true) : nmsOk w.2.2.1 8 = true ∧ (w.2.1 ≠ 1 → w.2.2.1 = []) := by
  simp only [wantOk, Bool.and_eq_true] at h
  obtain ⟨_, _, _, _, _, _, _, _, h1, h2⟩ := h
  refine ⟨h1, fun n => ?_⟩
  rw [beq_eq_false_iff_ne.2 n] at h2
  have := beq_iff_eq.1 h2
  have := of_decide_eq_false this.symm
  exact List.eq_nil_of_length_eq_zero (by omega)
theorem putU_name (w : Want) (u : Use) (s : Spot) : (putU w u s).1 = s.1 := rfl
theorem put_may {b : Book} {w : Want} (F : Free b w) {u : Use} (hu : u ∈ w.2.2.2.1) {s : Spot} (hs : spotOk b s = true) (he : spotAt b u.1 = s) (hr : u.2.1 ≠ 1) :
    nmsOk (insA s.2.2.2.2 w.2.2.1) 8 = true ∧ clash b (insA s.2.2.2.2 w.2.2.1) (insA s.2.2.2.2 w.2.2.1) = false ∧ (w.2.1 = 1 → u.2.1 ≠ 2 → insA s.2.2.2.2 w.2.2.1 = w.2.2.1) := by
  obtain ⟨a1, a2, a3, a4, a5⟩ := spotOk_iff.1 hs
  obtain ⟨s1, s2⟩ := want_stuffs F.wok
  obtain ⟨m1, m2, m3⟩ := nms_iff.1 a4
  obtain ⟨n1, n2, n3⟩ := nms_iff.1 s1
  by_cases hk : w.2.1 = 1
  · have hst := F.st hk u hu
    unfold stuffU at hst
    rw [he] at hst
    by_cases h2 : u.2.1 = 2
    · rw [h2, show ((2 : Int) == 2) = true from rfl, cond_true] at hst
      cases hc : clash b w.2.2.1 s.2.2.2.2 with
      | true => rw [hc] at hst; exact absurd hst (by decide : ¬ (8 : Int) = 0)
      | false =>
        rw [hc, cond_false] at hst
        by_cases hn : (unionN s.2.2.2.2 w.2.2.1 : Int) > 8
        · rw [decide_eq_true hn] at hst; exact absurd hst (by decide : ¬ (5 : Int) = 0)
        · have el := union_eq (nms_nodup a4) (nms_nodup s1)
          rw [insA_comp m3] at el
          refine ⟨nms_iff.2 ⟨by omega, fun x hx => ?_, insA_asc _ m3⟩, clash_no.2 fun f hf => ?_, fun _ h => absurd h2 h⟩
          · rcases insA_mem.1 hx with h | h
            · exact m2 x h
            · exact n2 x h
          · have c1 := clash_no.1 a5 f hf
            have c2 := clash_no.1 hc f hf
            have c3 := clash_no.1 F.cl f hf
            simp only [insA_mem]
            constructor
            · rintro ⟨h | h, g | g⟩
              · exact c1.1 ⟨h, g⟩
              · exact c2.2 ⟨g, h⟩
              · exact c2.1 ⟨h, g⟩
              · exact c3.1 ⟨h, g⟩
            · rintro ⟨h | h, g | g⟩
              · exact c1.2 ⟨h, g⟩
              · exact c2.1 ⟨g, h⟩
              · exact c2.2 ⟨h, g⟩
              · exact c3.2 ⟨h, g⟩
    · rw [beq_eq_false_iff_ne.2 h2, cond_false] at hst
      have hsub : ∀ x ∈ s.2.2.2.2, x ∈ w.2.2.1 := by
        cases ha : s.2.2.2.2.all fun x => w.2.2.1.contains x with
        | false => rw [ha] at hst; exact absurd hst (by decide : ¬ (8 : Int) = 0)
        | true => exact fun x hx => by have := List.all_eq_true.1 ha x hx; simpa using this
      have e : insA s.2.2.2.2 w.2.2.1 = w.2.2.1 := asc_ext (insA_asc _ m3) n3 fun x => by
        rw [insA_mem]
        exact ⟨fun h => h.elim (hsub x) id, .inr⟩
      rw [e]
      exact ⟨s1, F.cl, fun _ _ => rfl⟩
  · rw [s2 hk]
    exact ⟨a4, a5, fun h => absurd h hk⟩
theorem put_spot {b : Book} {w : Want} (F : Free b w) {u : Use} (hu : u ∈ w.2.2.2.1) {s : Spot} (hs : spotOk b s = true) (he : spotAt b u.1 = s) : spotOk b (putU w u s) = true ∧ useIn (putU w u s) w u = true := by
  obtain ⟨a1, a2, a3, a4, a5⟩ := spotOk_iff.1 hs
  have ham := F.am u hu
  unfold amountU at ham
  rw [he] at ham
  have hsub : w.2.1 = 1 → u.2.1 ≠ 2 → ∀ x ∈ s.2.2.2.2, x ∈ w.2.2.1 := by
    intro hk h2
    have hst := F.st hk u hu
    unfold stuffU at hst
    rw [he, beq_eq_false_iff_ne.2 h2, cond_false] at hst
    cases ha : s.2.2.2.2.all fun x => w.2.2.1.contains x with
    | false => rw [ha] at hst; exact absurd hst (by decide : ¬ (8 : Int) = 0)
    | true => exact fun x hx => by have := List.all_eq_true.1 ha x hx; simpa using this
  rcases use_facts F.wok hu with ⟨e1, e2⟩ | ⟨e1, ek, e3, e4⟩
  · obtain ⟨m1, m2, m3⟩ := put_may F hu hs he (by omega)
    have hp : putU w u s = (s.1, s.2.1, s.2.2.1, s.2.2.2.1, insA s.2.2.2.2 w.2.2.1) := by
      unfold putU; rw [e1]; rfl
    rw [hp]
    refine ⟨spotOk_iff.2 ⟨a1, a2, a3, m1, m2⟩, useIn_iff.2 ⟨fun hk => ?_, fun hk h2 => ?_, fun hk h1 x hx => insA_mem.2 (.inr hx), ?_⟩⟩
    · rw [e1, show ((3 : Int) == 1) = false from rfl, show ((3 : Int) == 2) = false from rfl, hk] at ham
      simp only [Bool.false_and, cond_false] at ham
      show s.2.2.2.1 ≤ 0
      by_cases hm : s.2.2.2.1 > 0
      · rw [decide_eq_true hm] at ham; exact absurd ham (by decide : ¬ (11 : Int) = 0)
      · omega
    · show ∀ x ∈ insA s.2.2.2.2 w.2.2.1, x ∈ w.2.2.1
      rw [m3 hk h2]; exact fun x hx => hx
    · show IntKind.i64.wrap (s.2.2.1 + u.2.2) ≤ s.2.2.2.1
      rw [e2, wr (by omega) (by omega)]; omega
  · rcases e1 with e | e
    · have hlt : ¬ s.2.2.1 < u.2.2 := by
        intro hl
        rw [e, decide_eq_true hl] at ham
        exact absurd ham (by decide : ¬ (9 : Int) = 0)
      have hp : putU w u s = (s.1, s.2.1, s.2.2.1 - u.2.2, s.2.2.2.1, s.2.2.2.2) := by
        unfold putU; rw [e, wr (n := s.2.2.1 - u.2.2) (by omega) (by omega)]; rfl
      rw [hp]
      refine ⟨spotOk_iff.2 ⟨a1, a2, by simp only; omega, a4, a5⟩, useIn_iff.2 ⟨fun hk => by omega, fun hk h2 => hsub hk h2, fun _ h => absurd e h, ?_⟩⟩
      show IntKind.i64.wrap (s.2.2.1 - u.2.2 + u.2.2) ≤ s.2.2.2.1
      rw [wr (by omega) (by omega)]; omega
    · obtain ⟨m1, m2, m3⟩ := put_may F hu hs he (by omega)
      have hw : IntKind.i64.wrap (s.2.2.2.1 + u.2.2) = s.2.2.2.1 + u.2.2 := wr (by omega) (by omega)
      have hlt : ¬ s.2.2.2.1 + u.2.2 > s.2.1 := by
        intro hl
        rw [e, show ((2 : Int) == 1) = false from rfl, hw, decide_eq_true hl] at ham
        exact absurd ham (by decide : ¬ (10 : Int) = 0)
      have hp : putU w u s = (s.1, s.2.1, s.2.2.1, s.2.2.2.1 + u.2.2, insA s.2.2.2.2 w.2.2.1) := by
        unfold putU; rw [e, hw]; rfl
      rw [hp]
      refine ⟨spotOk_iff.2 ⟨a1, a2, by simp only; omega, m1, m2⟩, useIn_iff.2 ⟨fun hk => by omega, fun _ h => absurd e h, fun hk h1 x hx => insA_mem.2 (.inr hx), ?_⟩⟩
      show IntKind.i64.wrap (s.2.2.1 + u.2.2) ≤ s.2.2.2.1 + u.2.2
      rw [wr (by omega) (by omega)]; omega
theorem put_spots {b : Book} (o : OkB b) {w : Want} (hk : knowsB b w = true) : w.2.2.2.1.foldl (putS w) b.2.1 = b.2.1.map (turn (putU w) w.2.2.2.1) :=
  upd_fold (f := putU w) (putU_name w) w.2.2.2.1 o.sa fun u hu => at_mem.1 (knows_at hk hu)
theorem put_ok {b : Book} {w : Want} (F : Free b w) : bookOk (putB b w) = true := by
  have o := bookOk_iff.1 F.ok
  have e := put_spots o F.kn
  have ex : (putB b w).2.1 = b.2.1.map (turn (putU w) w.2.2.2.1) := e
  have hn : (putB b w).2.1.map (·.1) = b.2.1.map (·.1) := by
    rw [ex, List.map_map]; exact List.map_congr_left fun s _ => turn_name (putU_name w) _ s
  have hw1 : 1 ≤ w.1 ∧ w.1 ≤ 1000000 := by
    have := F.wok
    simp only [wantOk, Bool.and_eq_true, inB, decide_eq_true_eq] at this
    omega
  have hso := o.seen
  have em : (b.2.2.2.1 ++ [(w, false)]).map (·.1) = b.2.2.2.1.map (·.1) ++ [w] := by simp
  refine bookOk_iff.2 ⟨o.foes, o.valves, ⟨by show 0 ≤ w.1; omega, hw1.2⟩, ?_, ?_, ?_, ?_, ?_, ?_⟩
  · rw [ex, List.length_map]; exact o.sl
  · rw [ex]
    intro t ht
    obtain ⟨s, hs, rfl⟩ := List.mem_map.1 ht
    have hso := o.so s hs
    show spotOk b _ = true
    by_cases hc : ∃ u ∈ w.2.2.2.1, u.1 = s.1
    · obtain ⟨u, hu, eu⟩ := hc
      rw [turn_in (putU_name w) (uses_asc F.wok) hu eu]
      exact (put_spot F hu hso (by rw [eu, spotAt_eq o.sa hs])).1
    · rw [turn_not fun u hu eu => hc ⟨u, hu, eu⟩]; exact hso
  · rw [hn]; exact o.sa
  · show (b.2.2.2.1 ++ [(w, false)]).length ≤ 6
    have := F.six
    simp; omega
  · show ∀ v ∈ (b.2.2.2.1 ++ [(w, false)]).map (·.1), wantIn (putB b w) v
    rw [em]
    intro v hv
    rcases List.mem_append.1 hv with hv | hv
    · have hvw := o.po v hv
      obtain ⟨p, hp, rfl⟩ := List.mem_map.1 hv
      have hsh := F.sh p hp
      rw [share_comm] at hsh
      exact wantIn_turn (putU_name w) ex rfl o.sa hvw (by show p.1.1 ≤ w.1; have := hvw.1; have := F.seen; omega) fun u hu => share_not hsh hu
    · obtain rfl := List.mem_singleton.1 hv
      refine ⟨Int.le_refl _, F.wok, by rw [knows_names hn rfl]; exact F.kn, fun u hu => ?_⟩
      have h0 := knows_at F.kn hu
      obtain ⟨g1, g2⟩ := spotAt_in h0
      rw [spotAt_map (turn_name (putU_name _) _) ex o.sa h0, turn_in (putU_name _) (uses_asc F.wok) hu g2.symm]
      exact (put_spot F hu (o.so _ g1) rfl).2
  · show ((b.2.2.2.1 ++ [(w, false)]).map (·.1)).Pairwise _
    rw [em]
    refine List.pairwise_append.2 ⟨o.pp, by simp, fun v hv x hx => ?_⟩
    obtain rfl := List.mem_singleton.1 hx
    have hvw := o.po v hv
    obtain ⟨p, hp, rfl⟩ := List.mem_map.1 hv
    have h1 := F.sh p hp
    have h2 := F.cr p hp
    rw [share_comm] at h1
    rw [cross_comm] at h2
    exact ⟨by have := hvw.1; have := F.seen; omega, h1, h2⟩
theorem none_ok : bookOk ([], [], [], [], 0) = true := by decide +kernel
theorem seen_ok {b : Book} {n : Int} (h : bookOk b = true) (h1 : b.2.2.2.2 ≤ n) (h2 : n ≤ 1000000) : bookOk (b.1, b.2.1, b.2.2.1, b.2.2.2.1, n) = true := by
  have o := bookOk_iff.1 h
  have := o.seen
  exact bookOk_iff.2 ⟨o.foes, o.valves, ⟨by show 0 ≤ n; omega, h2⟩, o.sl, o.so, o.sa, o.pl, fun w hw => by
    obtain ⟨g1, g2, g3, g4⟩ := o.po w hw
    exact ⟨by show w.1 ≤ n; omega, g2, g3, g4⟩, o.pp⟩
theorem want_num {w : Want} (h : wantOk w = true) : 1 ≤ w.1 ∧ w.1 ≤ 1000000 := by
  simp only [wantOk, Bool.and_eq_true, inB, decide_eq_true_eq] at h
  omega
theorem grant_ok {b : Book} {w : Want} (h : bookOk b = true) : bookOk (grantB b w).1 = true := by
  obtain ⟨f1, f2, f3, f4, f5⟩ := code_facts b w
  unfold grantB
  cases h1 : codeB b w == 1 with
  | true => exact none_ok
  | false =>
    simp only [cond_false]
    cases h24 : inB (codeB b w) 2 4 with
    | true => exact h
    | false =>
      simp only [cond_false]
      by_cases hp : partAt b w.1 ≥ 0
      · rw [decide_eq_true hp]; exact h
      · rw [decide_eq_false hp]
        cases h0 : codeB b w == 0 with
        | true => exact put_ok (code_free (beq_iff_eq.1 h0) (by omega))
        | false =>
          have n0 := beq_eq_false_iff_ne.1 h0
          have n1 := beq_eq_false_iff_ne.1 h1
          have h5 : 5 ≤ codeB b w := by
            have : ¬ (2 ≤ codeB b w ∧ codeB b w ≤ 4) := by
              rintro ⟨g1, g2⟩
              unfold inB at h24
              rw [decide_eq_true (show codeB b w ≥ 2 from g1), decide_eq_true g2] at h24
              cases h24
            omega
          obtain ⟨_, g2, g3⟩ := code_five h5
          have := want_num g2
          exact seen_ok h (by omega) (by omega)
theorem nm_sm {x : Txt} (h : nmOk x = true) : x.length ≤ 8 := by
  simp only [nmOk, inB, Bool.and_eq_true, decide_eq_true_eq] at h
  omega
theorem nms_sm {l : List Txt} {n : Int} (hn : n ≤ 1000) (h : nmsOk l n = true) : smL l := by
  obtain ⟨h1, h2, _⟩ := nms_iff.1 h
  exact ⟨by omega, fun x hx => by have := nm_sm (h2 x hx); unfold smT; omega⟩
theorem want_sm {w : Want} (h : wantOk w = true) : smW w := by
  have h' := h
  simp only [wantOk, usesOk, Bool.and_eq_true, Bool.not_eq_true', decide_eq_false_iff_not] at h
  obtain ⟨_, _, ⟨h1, h2⟩, h3, h4, _, _, _, h5, _⟩ := h
  refine ⟨nms_sm (by omega) h5, ⟨by omega, fun u hu => ?_⟩, nms_sm (by omega) h3, nms_sm (by omega) h4⟩
  obtain ⟨i, hi⟩ := List.getElem?_of_mem hu
  have := allI_iff.1 h2 i u hi
  simp only [useOk, Bool.and_eq_true] at this
  have := nm_sm this.1
  unfold smU smT; omega
theorem ok_sm {b : Book} (h : bookOk b = true) : smB b := by
  have o := bookOk_iff.1 h
  have hf := o.foes
  simp only [foesOk, Bool.and_eq_true, Bool.not_eq_true', decide_eq_false_iff_not] at hf
  have h1 := o.sl
  have h2 := o.pl
  refine ⟨⟨by omega, fun f hm => ?_⟩, ⟨by omega, fun s hs => ?_⟩, nms_sm (by omega) o.valves, by omega, fun p hp => ?_⟩
  · obtain ⟨i, hi⟩ := List.getElem?_of_mem hm
    have := allI_iff.1 hf.2 i f hi
    simp only [foeOk, Bool.and_eq_true] at this
    have g1 := nm_sm this.1
    have g2 := nm_sm this.2.1
    exact ⟨by unfold smT; omega, by unfold smT; omega⟩
  · obtain ⟨a1, _, _, a4, _⟩ := spotOk_iff.1 (o.so s hs)
    have := nm_sm a1
    exact ⟨by unfold smT; omega, nms_sm (by omega) a4⟩
  · exact want_sm (o.po p.1 (List.mem_map.2 ⟨p, hp, rfl⟩)).2.1
end Go.MC
namespace Go.MC
open Go.MC.F
def rdG (n : Int) (r : Rdr) : Prop := r.1.length ≤ 2000 ∧ (∀ x ∈ r.1, 0 ≤ x ∧ x ≤ 255) ∧ 0 ≤ r.2 ∧ r.2 ≤ n
theorem rdG.mono {m n : Int} {r : Rdr} (h : rdG m r) (hmn : m ≤ n) : rdG n r := ⟨h.1, h.2.1, h.2.2.1, Int.le_trans h.2.2.2 hmn⟩
theorem getD_byte {l : List Int} (h : ∀ x ∈ l, 0 ≤ x ∧ x ≤ 255) (i : Nat) : 0 ≤ l.getD i (Int.ofNat 0) ∧ l.getD i (Int.ofNat 0) ≤ 255 := by
  rw [List.getD_eq_getElem?_getD]
  cases hi : l[i]? with
  | none => exact ⟨by decide, by decide⟩
  | some x => exact h x (List.mem_of_getElem? hi)
theorem xor_nonneg {a b : Int} (ha : 0 ≤ a) (ha2 : a < 4611686018427387904) (hb : 0 ≤ b) (hb2 : b < 4611686018427387904) : 0 ≤ IntKind.i64.wrap (((BitVec.ofInt IntKind.i64.bits a ^^^ BitVec.ofInt IntKind.i64.bits b).toNat : Nat) : Int) := by
  have h1 : (BitVec.ofInt IntKind.i64.bits a).toNat < 2 ^ 62 := by
    rw [BitVec.toNat_ofInt]
    have : (2 : Nat) ^ IntKind.i64.bits = 18446744073709551616 := by decide
    rw [this]
    omega
  have h2 : (BitVec.ofInt IntKind.i64.bits b).toNat < 2 ^ 62 := by
    rw [BitVec.toNat_ofInt]
    have : (2 : Nat) ^ IntKind.i64.bits = 18446744073709551616 := by decide
    rw [this]
    omega
  have h3 : (BitVec.ofInt IntKind.i64.bits a ^^^ BitVec.ofInt IntKind.i64.bits b).toNat < 2 ^ 62 := by
    rw [BitVec.toNat_xor]
    exact Nat.xor_lt_two_pow h1 h2
  rw [wr (by omega) (by omega)]
  omega
def Gives {ρ : Type} (o : Option ρ) (P : ρ → Prop) : Prop := ∃ r, o = some r ∧ P r
theorem Gives.some {ρ : Type} {r : ρ} {P : ρ → Prop} (h : P r) : Gives (some r) P := ⟨r, rfl, h⟩
theorem Gives.mono {ρ : Type} {o : Option ρ} {P Q : ρ → Prop} (h : Gives o P) (hpq : ∀ r, P r → Q r) : Gives o Q := let ⟨r, e, hr⟩ := h; ⟨r, e, hpq r hr⟩
theorem Gives.ob {α ρ : Type} {o : Option α} {P : α → Prop} {B : α → Option ρ} {Q : ρ → Prop} {d : α} (h : Gives o P) (hB : ∀ a, P a → Gives (B a) Q) : Gives (ob o d B) Q := by
  obtain ⟨a, rfl, hp⟩ := h; exact hB a hp
theorem gIf {ρ : Type} {p : Prop} [Decidable p] {x y : Option ρ} {Q : ρ → Prop} (hp : p) (h : Gives x Q) : Gives (bif decide p then x else y) Q := by rw [decide_eq_true hp]; exact h
theorem gNot {ρ : Type} {p : Prop} [Decidable p] {x y : Option ρ} {Q : ρ → Prop} (hp : ¬ p) (h : Gives y Q) : Gives (bif decide p then x else y) Q := by rw [decide_eq_false hp]; exact h
theorem gBy {ρ : Type} {b : Bool} {x y : Option ρ} {Q : ρ → Prop} (h1 : b = true → Gives x Q) (h2 : b = false → Gives y Q) : Gives (bif b then x else y) Q := by
  cases b
  · exact h2 rfl
  · exact h1 rfl
theorem gDec {ρ : Type} {p : Prop} [Decidable p] {x y : Option ρ} {Q : ρ → Prop} (h1 : p → Gives x Q) (h2 : ¬ p → Gives y Q) : Gives (bif decide p then x else y) Q :=
  gBy (fun h => h1 (of_decide_eq_true h)) fun h => h2 (of_decide_eq_false h)
theorem lp_post {σ ρ F : Type} (n : Nat) (ap : F → Nat → σ → Option ρ) {z : F} {rd : F → F} (Inv : Nat → σ → Prop) {Post : ρ → Prop}
    (hstep : ∀ (g : F) (i : Nat) (st : σ), i < n → Inv i st → (∀ st', Inv (i + 1) st' → Gives (ap g (i + 1) st') Post) → Gives (ap (rd g) i st) Post)
    (hend : ∀ (g : F) (st : σ), Inv n st → Gives (ap (rd g) n st) Post) {N : Nat} (hN : n < N) {st : σ} (h0 : Inv 0 st) : Gives (ap (lp z rd N) 0 st) Post := by
  suffices H : ∀ (m i k : Nat) (st : σ), n - i = m → i ≤ n → m < k → Inv i st → Gives (ap (lp z rd k) i st) Post from H n 0 N st (by omega) (by omega) hN h0
  intro m
  induction m with
  | zero =>
    intro i k st h1 h2 h3 h4
    obtain ⟨k, rfl⟩ : ∃ j, k = j + 1 := ⟨k - 1, by omega⟩
    have hi : i = n := by omega
    subst hi
    exact hend _ st h4
  | succ m ih =>
    intro i k st h1 h2 h3 h4
    obtain ⟨k, rfl⟩ : ∃ j, k = j + 1 := ⟨k - 1, by omega⟩
    exact hstep _ i st (by omega) h4 fun st' hs => ih (i + 1) k st' (by omega) (by omega) (by omega) hs
theorem pick {N : Nat} {c : Int} {r : Rdr} (hr : rdG c r) (hc : c ≤ 1000000000000) {n : Int} (hn : 1 ≤ n) : ∃ k, f_38 N r n = some (k, r.1, r.2 + 1) ∧ 0 ≤ k ∧ k < n ∧ rdG (c + 1) (r.1, r.2 + 1) := by
  obtain ⟨h1, h2, h3, h4⟩ := hr
  have hg : rdG (c + 1) (r.1, r.2 + 1) := ⟨h1, h2, by show 0 ≤ r.2 + 1; omega, by show r.2 + 1 ≤ c + 1; omega⟩
  have w1 : IntKind.i64.wrap (r.2 + 1) = r.2 + 1 := wr (by omega) (by omega)
  have w2 : IntKind.i64.wrap (r.2 + 1 - 1) = r.2 := by rw [wr (by omega) (by omega)]; omega
  unfold f_38
  simp only [w1, w2, decide_eq_false (show ¬ n < 1 by omega), cond_false, decide_eq_false (show ¬ n = 0 by omega), Bool.not_false, cond_true]
  have mod : ∀ x : Int, 0 ≤ x → 0 ≤ x.tmod n ∧ x.tmod n < n := fun x hx => ⟨Int.tmod_nonneg n hx, Int.tmod_lt_of_pos x (by omega)⟩
  cases hl : ((List.length r.1 : Int) == 0) with
  | true => exact ⟨0, rfl, by omega, by omega, hg⟩
  | false =>
    have hl0 : ¬ ((List.length r.1 : Nat) : Int) = 0 := beq_eq_false_iff_ne.1 hl
    have hlp : (0 : Int) < (List.length r.1 : Int) := by omega
    simp only [cond_false]
    by_cases hk : r.2 < (List.length r.1 : Int)
    · simp only [decide_eq_true hk, decide_eq_true h3, cond_true]
      have hb := getD_byte h2 r.2.toNat
      have hw : IntKind.i64.wrap (List.getD r.1 r.2.toNat (Int.ofNat 0)) = List.getD r.1 r.2.toNat (Int.ofNat 0) := wr (by omega) (by omega)
      rw [hw]
      have := mod _ hb.1
      exact ⟨_, rfl, this.1, this.2, hg⟩
    · have m1 : 0 ≤ r.2.tmod (List.length r.1 : Int) := Int.tmod_nonneg _ h3
      have m2 : r.2.tmod (List.length r.1 : Int) < (List.length r.1 : Int) := Int.tmod_lt_of_pos _ hlp
      have w3 : IntKind.i64.wrap (IntKind.i64.wrap (r.2 * 7) + 3) = r.2 * 7 + 3 := by rw [wr (n := r.2 * 7) (by omega) (by omega), wr (by omega) (by omega)]
      have m3 : 0 ≤ (r.2 * 7 + 3).tmod (List.length r.1 : Int) := Int.tmod_nonneg _ (by omega)
      have m4 : (r.2 * 7 + 3).tmod (List.length r.1 : Int) < (List.length r.1 : Int) := Int.tmod_lt_of_pos _ hlp
      simp only [decide_eq_false hk, cond_false, decide_eq_false hl0, Bool.not_false, cond_true, decide_eq_true m1, decide_eq_true m2, w3, decide_eq_true m3, decide_eq_true m4]
      have hb1 := getD_byte h2 (r.2.tmod (List.length r.1 : Int)).toNat
      have hb2 := getD_byte h2 ((r.2 * 7 + 3).tmod (List.length r.1 : Int)).toNat
      generalize List.getD r.1 (r.2.tmod (List.length r.1 : Int)).toNat (Int.ofNat 0) = b1 at hb1 ⊢
      generalize List.getD r.1 ((r.2 * 7 + 3).tmod (List.length r.1 : Int)).toNat (Int.ofNat 0) = b2 at hb2 ⊢
      have q1 : 0 ≤ r.2.tdiv (List.length r.1 : Int) := by rw [Int.tdiv_eq_ediv_of_nonneg h3]; exact Int.ediv_nonneg h3 (by omega)
      have q2 : r.2.tdiv (List.length r.1 : Int) ≤ r.2 := by rw [Int.tdiv_eq_ediv_of_nonneg h3]; exact Int.ediv_le_self _ h3
      generalize r.2.tdiv (List.length r.1 : Int) = q at q1 q2 ⊢
      have v1 : IntKind.i64.wrap b1 = b1 := wr (by omega) (by omega)
      have v2 : IntKind.i64.wrap b2 = b2 := wr (by omega) (by omega)
      have v3 : IntKind.i64.wrap (b1 * 131) = b1 * 131 := wr (by omega) (by omega)
      have v4 : IntKind.i64.wrap (b2 * 1117) = b2 * 1117 := wr (by omega) (by omega)
      have v5 : IntKind.i64.wrap (r.2 * 29) = r.2 * 29 := wr (by omega) (by omega)
      have v6 : IntKind.i64.wrap q = q := wr (by omega) (by omega)
      have v7 : IntKind.i64.wrap (q * 53) = q * 53 := wr (by omega) (by omega)
      have v8 : IntKind.i64.wrap (b1 * 131 + b2 * 1117) = b1 * 131 + b2 * 1117 := wr (by omega) (by omega)
      have v9 : IntKind.i64.wrap (b1 * 131 + b2 * 1117 + r.2 * 29) = b1 * 131 + b2 * 1117 + r.2 * 29 := wr (by omega) (by omega)
      have va : IntKind.i64.wrap (b1 * 131 + b2 * 1117 + r.2 * 29 + q * 53) = b1 * 131 + b2 * 1117 + r.2 * 29 + q * 53 := wr (by omega) (by omega)
      simp only [v1, v2, v3, v4, v5, v6, v7, v8, v9, va]
      have x1 : 0 ≤ b1 * 131 + b2 * 1117 + r.2 * 29 + q * 53 := by omega
      have x2 : b1 * 131 + b2 * 1117 + r.2 * 29 + q * 53 < 4611686018427387904 := by omega
      have x3 : 0 ≤ (b1 * 131 + b2 * 1117 + r.2 * 29 + q * 53).tdiv 64 := by rw [Int.tdiv_eq_ediv_of_nonneg x1]; omega
      have x4 : (b1 * 131 + b2 * 1117 + r.2 * 29 + q * 53).tdiv 64 < 4611686018427387904 := by rw [Int.tdiv_eq_ediv_of_nonneg x1]; omega
      have x5 : IntKind.i64.wrap ((b1 * 131 + b2 * 1117 + r.2 * 29 + q * 53).tdiv 64) = (b1 * 131 + b2 * 1117 + r.2 * 29 + q * 53).tdiv 64 := wr (by omega) (by omega)
      rw [x5]
      refine ⟨_, rfl, ?_, ?_, hg⟩
      · exact Int.tmod_nonneg _ (xor_nonneg x1 x2 x3 x4)
      · exact Int.tmod_lt_of_pos _ (by omega)
theorem pickG {N : Nat} {c : Int} {r : Rdr} (hr : rdG c r) (hc : c ≤ 1000000000000) {n : Int} (hn : 1 ≤ n) : Gives (f_38 N r n) fun q => 0 ≤ q.1 ∧ q.1 < n ∧ rdG (c + 1) q.2 :=
  let ⟨k, h1, h2, h3, h4⟩ := pick hr hc hn
  ⟨_, h1, h2, h3, h4⟩
theorem pick0 {N : Nat} {c : Int} {r : Rdr} (hr : rdG c r) (hc : c ≤ 1000000000000) (n : Int) : Gives (f_38 N r n) fun q => 0 ≤ q.1 ∧ (q.1 < n ∨ q.1 = 0) ∧ rdG (c + 1) q.2 := by
  by_cases hn : 1 ≤ n
  · exact (pickG hr hc hn).mono fun q h => ⟨h.1, .inl h.2.1, h.2.2⟩
  · obtain ⟨h1, h2, h3, h4⟩ := hr
    unfold f_38
    rw [decide_eq_true (show n < 1 by omega), wr (by omega) (by omega)]
    exact ⟨_, rfl, Int.le_refl 0, .inr rfl, h1, h2, by show 0 ≤ r.2 + 1; omega, by show r.2 + 1 ≤ c + 1; omega⟩
theorem sub_keep {α : Type} {l out : List α} {i : Nat} (hi : i < l.length) (h : out.Sublist (l.take i)) : out.Sublist (l.take (i + 1)) := by
  rw [List.take_add_one]; exact h.trans (List.sublist_append_left _ _)
theorem sub_add {α : Type} {l out : List α} {i : Nat} (hi : i < l.length) (h : out.Sublist (l.take i)) : (out ++ [l[i]]).Sublist (l.take (i + 1)) := by
  rw [List.take_add_one, List.getElem?_eq_getElem hi]; exact h.append (List.Sublist.refl _)
end Go.MC
namespace Go.MC
open Go.MC.F
end Go.MC
namespace Go.MC
open Go.MC.F
theorem gTrue {o : Option Bool} (h : Gives o (· = true)) : o = some true := by obtain ⟨r, e, rfl⟩ := h; exact e
def usesB (w : Want) (n : Txt) : Bool := w.2.2.2.1.any fun u => u.1 == n
theorem wUses {N : Nat} (hN : lim < N) {w : Want} (hw : smW w) (n : Txt) : f_87 N w n = some (usesB w n) := by
  have hlim := lim_eq
  have hu := hw.2.1.1
  unfold f_87 f_87b usesB
  refine (lp_allI w.2.2.2.1 _ (fun _ u => !(u.1 == n)) (some true) (some false) (fun g i hi => ?_) (fun g => ?_) N (by omega)).trans ?_
  · unfold f_87_0r
    simp only [dlt hi, dge, gAt hi, cond_true, wrS (show i ≤ 1000000000000000000 by omega)]
    cases w.2.2.2.1[i].1 == n <;> rfl
  · unfold f_87_0r
    rw [dnlt]; rfl
  · rw [allI_all, not_any]
    cases w.2.2.2.1.any fun u => u.1 == n <;> rfl
end Go.MC
namespace Go.MC
open Go.MC.F
theorem alike_self (a : List Txt) : alike a a = true := by
  unfold alike
  simp only [beq_self_eq_true, Bool.true_and]
  refine allI_iff.2 fun j x hj => ?_
  obtain ⟨h, e⟩ := List.getElem?_eq_some_iff.1 hj
  rw [Nat.zero_add, getD_at h, e]; simp
theorem idxB_map {α β : Type} {p : β → Bool} (f : α → β) : ∀ {l : List α} {i : Nat}, idxB (fun x => p (f x)) i l = idxB p i (l.map f)
  | [], _ => rfl
  | x :: l, i => by simp only [idxB, List.map_cons]; rw [idxB_map f]
theorem partAt_map {b c : Book} (h : c.2.2.2.1.map (·.1) = b.2.2.2.1.map (·.1)) (n : Int) : partAt c n = partAt b n := by
  unfold partAt
  rw [idxB_map (p := fun w : Want => w.1 == n) (fun q : Part => q.1), idxB_map (p := fun w : Want => w.1 == n) (fun q : Part => q.1), h]
theorem part_num {b : Book} {n : Int} (h : 0 ≤ partAt b n) : (partX b n).1.1 = n := by
  obtain ⟨j, hj, e1, e2⟩ := idxB_mem (p := fun q : Part => q.1.1 == n) (l := b.2.2.2.1) (i := 0) h
  have e : partX b n = b.2.2.2.1[j] := by
    unfold partX
    rw [show partAt b n = ((0 + j : Nat) : Int) from e1, Int.toNat_natCast, Nat.zero_add, getD_at hj]
  rw [e]; simpa using e2
def stoppedB (x : Book) (n : Int) : Book := (x.1, x.2.1, x.2.2.1, stopParts x n, x.2.2.2.2)
theorem moved_zero {w : Want} (h : wantOk w = true) : movedOk w 0 = true := by
  unfold movedOk movedU
  simp only [Bool.and_eq_true, Bool.not_eq_true', decide_eq_false_iff_not]
  refine ⟨by omega, List.all_eq_true.2 fun u hu => ?_⟩
  rcases use_facts h hu with ⟨e, _⟩ | ⟨_, _, h1, _⟩
  · rw [e]; rfl
  · rw [decide_eq_false (by omega)]; simp
theorem stopped_map (x : Book) (n : Int) : (stoppedB x n).2.2.2.1.map (·.1) = x.2.2.2.1.map (·.1) := by
  show (stopParts x n).map (·.1) = _
  unfold stopParts
  exact map_set_same _ fun hk => by rw [getD_at hk]
theorem after {x : Book} {w : Want} (hx : bookOk x = true) (hw : wantOk w = true) (hk : knowsB x w = true) (hp : 0 ≤ partAt x w.1) (he : (partX x w.1).1 = w) :
    stopB x w.1 = (stoppedB x w.1, 0) ∧ overB (stoppedB x w.1) w.1 0 false = (overBk (stoppedB x w.1) w.1 0 false, 0) ∧ bookOk (stoppedB x w.1) = true ∧ partX (stoppedB x w.1) w.1 = (w, true) ∧ partAt (stoppedB x w.1) w.1 = partAt x w.1 := by
  have hlt := partAt_lt hp
  have e1 : stopB x w.1 = (stoppedB x w.1, 0) := by
    unfold stopB
    rw [hx, decide_eq_false (by omega)]; rfl
  have ok1 : bookOk (stoppedB x w.1) = true := by have := stop_ok (n := w.1) hx; rw [e1] at this; exact this
  have hat : partAt (stoppedB x w.1) w.1 = partAt x w.1 := partAt_map (stopped_map x w.1) _
  have hpx : partX (stoppedB x w.1) w.1 = (w, true) := by
    unfold partX
    rw [hat]
    show (stopParts x w.1).getD _ _ = _
    unfold stopParts
    rw [getD_at (by rw [List.length_set]; omega), List.getElem_set_self]
    exact Prod.ext he rfl
  refine ⟨e1, ?_, ok1, hpx, hat⟩
  unfold overB
  rw [ok1, decide_eq_false (show ¬ partAt (stoppedB x w.1) w.1 < 0 by omega), hpx, moved_zero hw]
  rfl
end Go.MC
namespace Go.MC
open Go.MC.F
theorem rdOf {N : Nat} {c : Int} {r : Rdr} (hr : rdG c r) (hc : c ≤ 1000000000000) {l : List Txt} (hl : 1 ≤ l.length) : Gives (f_56 N r l) fun q => q.1 ∈ l ∧ rdG (c + 1) q.2 := by
  unfold f_56
  refine (pickG hr hc (n := (l.length : Int)) (by omega)).ob fun k h => gIf h.1 (gIf h.2.1 (.some ⟨getD_mem (by omega) _, h.2.2⟩))
theorem l5Of {N : Nat} {c : Int} {r : Rdr} (hr : rdG c r) (hc : c ≤ 999999999000) (b : Book) : Gives (f_96 N r b) fun q => rdG (c + 2) q.2 := by
  have last : ∀ {c' : Int} {r' : Rdr}, rdG c' r' → c' ≤ c + 1 → Gives (ob (f_38 N r' 4) (Int.ofNat 0, [], Int.ofNat 0) fun q => bif decide (0 ≤ q.1) then (bif decide (q.1 < (([0, -1, b.2.2.2.2, IntKind.i64.wrap (b.2.2.2.2 + 1)].length : Nat) : Int)) then some ([0, -1, b.2.2.2.2, IntKind.i64.wrap (b.2.2.2.2 + 1)].getD q.1.toNat (Int.ofNat 0), q.2) else none) else none) fun q => rdG (c + 2) q.2 := fun {c' r'} h hc' =>
    (pickG h (by omega) (by omega)).ob fun q hq => gIf hq.1 (gIf (by simp only [List.length_cons, List.length_nil]; omega) (.some (hq.2.2.mono (by omega))))
  unfold f_96 f_96G
  refine gDec (fun h => ?_) fun _ => last hr (by omega)
  refine (pickG hr (by omega) (by omega)).ob fun k hk => gDec (fun _ => ?_) fun _ => last hk.2.2 (by omega)
  exact (pickG hk.2.2 (by omega) (show (1 : Int) ≤ (b.2.2.2.1.length : Int) by omega)).ob fun j hj => gIf hj.1 (gIf hj.2.1 (.some (hj.2.2.mono (by omega))))
theorem l5Some {N : Nat} (hN : lim < N) {c : Int} {r : Rdr} (hr : rdG c r) (hc : c ≤ 999999990000) {list : List Txt} (hl : list.length ≤ 1000) (most : Int) :
    Gives (f_80 N r list most) fun q => rdG (c + list.length) q.2 ∧ q.1.Sublist list := by
  have hlim := lim_eq
  refine lp_post list.length (fun (g : Int → List Int → Int → List Txt → Option (List Txt × Rdr)) i (st : Rdr × List Txt) => g i st.1.1 st.1.2 st.2) (z := fun _ _ _ _ => none) (rd := fun next => f_80_0r N list most next) (fun i st => rdG (c + i) st.1 ∧ st.2.Sublist (list.take i))
    (fun g i st hi hv on => ?_) (fun g st hv => ?_) (N := N) (st := (r, [])) (by omega) ⟨hr.mono (by omega), by simp⟩
  · have hln := hv.2.length_le
    rw [List.length_take] at hln
    unfold f_80_0r
    simp only [wrS (show i ≤ 1000000000000000000 by omega), gAt hi]
    refine gIf (by omega) (gDec (fun _ => (pickG hv.1 (by omega) (by omega)).ob fun k hk => gBy (fun _ => gIf (by omega) (gIf (by omega) (gIf (by omega) (on (k.2, _) ⟨hk.2.2.mono (by omega), sub_add hi hv.2⟩)))) fun _ => on (k.2, st.2) ⟨hk.2.2.mono (by omega), sub_keep hi hv.2⟩)
      fun _ => .some ⟨hv.1.mono (by omega), hv.2.trans (List.take_sublist _ _)⟩)
  · unfold f_80_0r
    refine gNot (by omega) (.some ⟨hv.1, hv.2.trans (List.take_sublist _ _)⟩)
end Go.MC
namespace Go.MC
open Go.MC.F
def nm5 : List Txt := [[106, 49], [106, 50], [107, 101, 103], [116, 117, 110], [118, 97, 116]]
def vl6 : List Txt := [[97], [98], [99], [100], [101], [102]]
def ales : List Txt := [[97, 108, 101], [109, 97, 108, 116], [119, 97, 116, 101, 114]]
def foe2 : List Foe := [([97, 108, 101], [108, 121, 101]), ([108, 121, 101], [109, 97, 108, 116])]
def bspot (s : Spot) : Prop := (s.2.2.2.2 = [] ∨ ∃ x ∈ ales, s.2.2.2.2 = [x]) ∧ 0 ≤ s.2.2.1 ∧ s.2.2.1 = s.2.2.2.1 ∧ s.2.2.2.1 ≤ s.2.1 ∧ 0 ≤ s.2.1 ∧ s.2.1 ≤ 50
def baseB (b : Book) : Prop := (b.1 = foe2 ∨ b.1 = foe2.drop 1) ∧ ((b.2.1.map (·.1)).Sublist nm5 ∧ ∀ s ∈ b.2.1, bspot s) ∧ b.2.2.1.Sublist vl6 ∧ b.2.2.2.1 = [] ∧ b.2.2.2.2 = 0
theorem base2 {N : Nat} (hN : lim < N) {c : Int} {r : Rdr} (hr : rdG c r) (hc : c ≤ 999999990000) (t z : Int) (fs : List Foe) (sp : List Spot) :
    Gives (f_76_2 N t fs z sp vl6 N 0 r.1 r.2 []) fun q => rdG (c + 6) q.2 ∧ ∃ vs, vs.Sublist vl6 ∧ q.1 = (fs, sp, vs, [], z) := by
  have hlim := lim_eq
  have h6 : vl6.length = 6 := rfl
  refine lp_post 6 (fun (g : Int → List Int → Int → List Txt → Option (Book × Rdr)) i (st : Rdr × List Txt) => g i st.1.1 st.1.2 st.2) (z := fun _ _ _ _ => none) (rd := fun next => f_76_2r N t fs z sp vl6 next) (fun i st => rdG (c + i) st.1 ∧ st.2.Sublist (vl6.take i))
    (fun g i st hi hv on => ?_) (fun g st hv => ?_) (N := N) (st := (r, [])) (by omega) ⟨hr.mono (by omega), by simp⟩
  · have hln := hv.2.length_le
    rw [List.length_take] at hln
    have hi' : i < vl6.length := by omega
    unfold f_76_2r
    simp only [wrS (show i ≤ 1000000000000000000 by omega), gAt hi']
    exact gIf (by omega) ((pickG hv.1 (by omega) (by omega)).ob fun k hk => gDec (fun _ => gIf (by omega) (gIf (by omega) (gIf (by omega) (on (k.2, _) ⟨hk.2.2.mono (by omega), sub_add hi' hv.2⟩)))) fun _ => on (k.2, st.2) ⟨hk.2.2.mono (by omega), sub_keep hi' hv.2⟩)
  · unfold f_76_2r
    exact gNot (by omega) (.some ⟨hv.1, _, hv.2.trans (List.take_sublist _ _), rfl⟩)
theorem base0 {N : Nat} (hN : lim < N) {c : Int} {r : Rdr} (hr : rdG c r) (hc : c ≤ 999999980000) (fs : List Foe) :
    Gives (f_76_0 N 0 fs 0 nm5 N 0 r.1 r.2 []) fun q => rdG (c + 40) q.2 ∧ ∃ sp vs, ((sp.map (·.1)).Sublist nm5 ∧ ∀ s ∈ sp, bspot s) ∧ vs.Sublist vl6 ∧ q.1 = (fs, sp, vs, [], 0) := by
  have hlim := lim_eq
  have h5 : nm5.length = 5 := rfl
  refine lp_post 5 (fun (g : Int → List Int → Int → List Spot → Option (Book × Rdr)) i (st : Rdr × List Spot) => g i st.1.1 st.1.2 st.2) (z := fun _ _ _ _ => none) (rd := fun next => f_76_0r N (f_76_2 N) 0 fs 0 nm5 next) (fun i st => rdG (c + 5 * i) st.1 ∧ (st.2.map (·.1)).Sublist (nm5.take i) ∧ ∀ s ∈ st.2, bspot s)
    (fun g i st hi hv on => ?_) (fun g st hv => ?_) (N := N) (st := (r, [])) (by omega) ⟨hr.mono (by omega), by simp, by simp⟩
  · have hln := hv.2.1.length_le
    rw [List.length_take, List.length_map] at hln
    have hi' : i < nm5.length := by omega
    have on' : ∀ (q : Rdr) (s : Spot), rdG (c + 5 * ((i + 1 : Nat) : Int)) q → s.1 = nm5[i] → bspot s → Gives (g ((i + 1 : Nat) : Int) q.1 q.2 (st.2 ++ [s])) _ := fun q s hq e hs => on (q, st.2 ++ [s]) ⟨hq, by
      rw [List.map_append, List.map_cons, e]; exact sub_add hi' hv.2.1, fun x hx => by
      rcases List.mem_append.1 hx with hx | hx
      · exact hv.2.2 x hx
      · rw [List.mem_singleton.1 hx]; exact hs⟩
    unfold f_76_0r
    simp only [wrS (show i ≤ 1000000000000000000 by omega), gAt hi']
    have hgd : (st.2.length + 1) * 64 ≤ lim := by omega
    refine gIf (by omega) ((pickG hv.1 (by omega) (by omega)).ob fun k hk => gBy (fun _ => on (k.2, st.2) ⟨hk.2.2.mono (by omega), sub_keep hi' hv.2.1, hv.2.2⟩) fun _ => gIf (by omega) (gIf (by omega) (gDec (fun _ => ?_) fun _ => gIf hgd (on' k.2 _ (hk.2.2.mono (by omega)) rfl ⟨.inl rfl, Int.le_refl 0, rfl, Int.le_refl 0, Int.le_refl 0, (by decide : (0 : Int) ≤ 50)⟩))))
    refine (pickG hk.2.2 (by omega) (by omega)).ob fun k3 h3 => ?_
    have e1 : IntKind.i64.wrap (10 + k3.1) = 10 + k3.1 := wr (by omega) (by omega)
    have e2 : IntKind.i64.wrap (10 + k3.1 + 1) = 10 + k3.1 + 1 := wr (by omega) (by omega)
    simp only [e1, e2]
    refine (pickG h3.2.2 (by omega) (by omega)).ob fun k4 h4 => (pickG h4.2.2 (by omega) (by omega)).ob fun k5 h5 => ?_
    refine gBy (fun _ => gIf hgd (on' k5.2 _ (h5.2.2.mono (by omega)) rfl ⟨.inl rfl, Int.le_refl 0, rfl, by show (0 : Int) ≤ 10 + k3.1; omega, by show (0 : Int) ≤ 10 + k3.1; omega, by show 10 + k3.1 ≤ 50; omega⟩)) fun _ => gDec (fun _ => ?_) fun _ => ?_
    · exact (rdOf h5.2.2 (by omega) (by decide)).ob fun x hx => gIf hgd (on' x.2 _ (hx.2.mono (by omega)) rfl ⟨.inr ⟨x.1, hx.1, rfl⟩, h4.1, rfl, by show k4.1 ≤ 10 + k3.1; omega, by show (0 : Int) ≤ 10 + k3.1; omega, by show 10 + k3.1 ≤ 50; omega⟩)
    · exact gIf hgd (on' k5.2 _ (h5.2.2.mono (by omega)) rfl ⟨.inl rfl, h4.1, rfl, by show k4.1 ≤ 10 + k3.1; omega, by show (0 : Int) ≤ 10 + k3.1; omega, by show 10 + k3.1 ≤ 50; omega⟩)
  · unfold f_76_0r
    exact gNot (by omega) ((base2 hN hv.1 (by omega) 0 0 fs st.2).mono fun q ⟨h1, vs, h2, h3⟩ => ⟨h1.mono (by omega), st.2, vs, ⟨hv.2.1.trans (List.take_sublist _ _), hv.2.2⟩, h2, h3⟩)
theorem l5Base {N : Nat} (hN : lim < N) {c : Int} {r : Rdr} (hr : rdG c r) (hc : c ≤ 999999970000) : Gives (f_76 N r) fun q => rdG (c + 41) q.2 ∧ baseB q.1 := by
  unfold f_76 f_76b
  refine (pickG hr (by omega) (by omega)).ob fun k hk => gBy (fun _ => ?_) fun _ => ?_
  · refine (base0 hN hk.2.2 (by omega) (foe2.drop 1)).mono fun q ⟨h1, sp, vs, h2, h3, h4⟩ => ⟨h1.mono (by omega), ?_⟩
    rw [h4]; exact ⟨.inr rfl, h2, h3, rfl, rfl⟩
  · refine (base0 hN hk.2.2 (by omega) foe2).mono fun q ⟨h1, sp, vs, h2, h3, h4⟩ => ⟨h1.mono (by omega), ?_⟩
    rw [h4]; exact ⟨.inl rfl, h2, h3, rfl, rfl⟩
theorem nm5_ok : nmsOk nm5 8 = true := by decide +kernel
theorem vl6_ok : nmsOk vl6 12 = true := by decide +kernel
theorem nms_sub {l m : List Txt} {n : Int} (h : nmsOk l n = true) (hs : m.Sublist l) : nmsOk m n = true := by
  obtain ⟨h1, h2, h3⟩ := nms_iff.1 h
  have := hs.length_le
  exact nms_iff.2 ⟨by omega, fun x hx => h2 x (hs.subset hx), h3.sublist hs⟩
theorem base_ok {b : Book} (h : baseB b) : bookOk b = true := by
  obtain ⟨h1, ⟨h2, h3⟩, h4, h5, h6⟩ := h
  have hn := nms_iff.1 (nms_sub nm5_ok h2)
  have hf : foesOk b = true := by
    rcases h1 with e | e
    · unfold foesOk foeOk; rw [e]; decide +kernel
    · unfold foesOk foeOk; rw [e]; decide +kernel
  have hcl : ∀ x ∈ ales, nmsOk [x] 8 = true ∧ clash b [x] [x] = false := by
    intro x hx
    refine ⟨?_, clash_no.2 fun f hf => ?_⟩
    · simp only [ales, List.mem_cons, List.not_mem_nil, or_false] at hx
      rcases hx with e | e | e <;> rw [e] <;> decide +kernel
    · have hne : f.1 ≠ f.2 := by
        have : f ∈ foe2 := by
          rcases h1 with e | e
          · rwa [e] at hf
          · rw [e] at hf; exact List.mem_of_mem_drop hf
        simp only [foe2, List.mem_cons, List.not_mem_nil, or_false] at this
        rcases this with e | e <;> rw [e] <;> decide
      simp only [List.mem_singleton]
      exact ⟨fun h => hne (h.1.trans h.2.symm), fun h => hne (h.2.trans h.1.symm)⟩
  refine bookOk_iff.2 ⟨hf, nms_sub vl6_ok h4, by rw [h6]; decide, ?_, fun s hs => ?_, hn.2.2, by rw [h5]; decide, by rw [h5]; simp, by rw [h5]; simp⟩
  · have := hn.1
    rw [List.length_map] at this
    omega
  · obtain ⟨g1, g2, g3, g4, g5, g6⟩ := h3 s hs
    have hm : nmsOk s.2.2.2.2 8 = true ∧ clash b s.2.2.2.2 s.2.2.2.2 = false := by
      rcases g1 with e | ⟨x, hx, e⟩
      · rw [e]; exact ⟨rfl, by unfold clash; simp⟩
      · rw [e]; exact hcl x hx
    exact spotOk_iff.2 ⟨hn.2.1 _ (List.mem_map.2 ⟨s, hs, rfl⟩), by omega, by omega, hm.1, hm.2⟩
end Go.MC
namespace Go.MC
open Go.MC.F
def mdT (s : Txt) : Prop := s.length ≤ 20
def mdL (n : Nat) (l : List Txt) : Prop := l.length ≤ n ∧ ∀ x ∈ l, mdT x
def mdU (u : Use) : Prop := mdT u.1 ∧ -1 ≤ u.2.2 ∧ u.2.2 ≤ 1001
def mdW (n : Nat) (w : Want) : Prop := mdL 1000 w.2.2.1 ∧ (w.2.2.2.1.length ≤ n ∧ ∀ u ∈ w.2.2.2.1, mdU u) ∧ mdL n w.2.2.2.2.1 ∧ mdL n w.2.2.2.2.2
def mdS (s : Spot) : Prop := mdT s.1 ∧ mdL 20 s.2.2.2.2
def mdB (b : Book) : Prop := (b.1.length ≤ 20 ∧ ∀ f ∈ b.1, mdT f.1 ∧ mdT f.2) ∧ (b.2.1.length ≤ 20 ∧ ∀ s ∈ b.2.1, mdS s) ∧ mdL 50 b.2.2.1 ∧ (b.2.2.2.1.length ≤ 20 ∧ ∀ p ∈ b.2.2.2.1, mdW 100 p.1) ∧ -1 ≤ b.2.2.2.2 ∧ b.2.2.2.2 ≤ 1000001
theorem mdL.sm {n : Nat} {l : List Txt} (h : mdL n l) (hn : n ≤ 1000) : smL l := ⟨by have := h.1; omega, fun x hx => by have := h.2 x hx; unfold mdT at this; unfold smT; omega⟩
theorem mdL.mono {m n : Nat} {l : List Txt} (h : mdL m l) (hn : m ≤ n) : mdL n l := ⟨by have := h.1; omega, h.2⟩
theorem mdW.sm {n : Nat} {w : Want} (h : mdW n w) (hn : n ≤ 1000) : smW w := ⟨h.1.sm (by omega), ⟨by have := h.2.1.1; omega, fun u hu => by have := (h.2.1.2 u hu).1; unfold mdT at this; unfold smU smT; omega⟩, h.2.2.1.sm (by omega), h.2.2.2.sm (by omega)⟩
theorem mdB.sm {b : Book} (h : mdB b) : smB b := ⟨⟨by have := h.1.1; omega, fun f hf => by have := h.1.2 f hf; unfold mdT at this; unfold smF smT; omega⟩, ⟨by have := h.2.1.1; omega, fun s hs => by
  obtain ⟨h1, h2⟩ := h.2.1.2 s hs
  exact ⟨by unfold mdT at h1; unfold smT; omega, h2.sm (by omega)⟩⟩, h.2.2.1.sm (by omega), by have := h.2.2.2.1.1; omega, fun p hp => (h.2.2.2.1.2 p hp).sm (by omega)⟩
theorem nms_md {l : List Txt} {n : Int} {m : Nat} (hn : n ≤ m) (h : nmsOk l n = true) : mdL m l := by
  obtain ⟨h1, h2, _⟩ := nms_iff.1 h
  exact ⟨by omega, fun x hx => by have := nm_sm (h2 x hx); unfold mdT; omega⟩
theorem mdW.mono {m n : Nat} {w : Want} (h : mdW m w) (hn : m ≤ n) : mdW n w := ⟨h.1, ⟨Nat.le_trans h.2.1.1 hn, h.2.1.2⟩, h.2.2.1.mono hn, h.2.2.2.mono hn⟩
theorem want_md {w : Want} (h : wantOk w = true) : mdW 50 w := by
  have h' := h
  simp only [wantOk, usesOk, Bool.and_eq_true, Bool.not_eq_true', decide_eq_false_iff_not] at h
  obtain ⟨_, _, ⟨h1, h2⟩, h3, h4, _, _, _, h5, _⟩ := h
  refine ⟨nms_md (by omega) h5, ⟨by omega, fun u hu => ?_⟩, nms_md (by omega) h3, nms_md (by omega) h4⟩
  obtain ⟨i, hi⟩ := List.getElem?_of_mem hu
  have := allI_iff.1 h2 i u hi
  simp only [useOk, Bool.and_eq_true] at this
  have := nm_sm this.1
  have := use_facts h' hu
  exact ⟨by unfold mdT; omega, by omega, by omega⟩
theorem ok_md {b : Book} (h : bookOk b = true) : mdB b := by
  have o := bookOk_iff.1 h
  have hf := o.foes
  simp only [foesOk, Bool.and_eq_true, Bool.not_eq_true', decide_eq_false_iff_not] at hf
  have h1 := o.sl
  have h2 := o.pl
  have h3 := o.seen
  refine ⟨⟨by omega, fun f hm => ?_⟩, ⟨by omega, fun s hs => ?_⟩, nms_md (by omega) o.valves, ⟨by omega, fun p hp => ?_⟩, by omega, by omega⟩
  · obtain ⟨i, hi⟩ := List.getElem?_of_mem hm
    have := allI_iff.1 hf.2 i f hi
    simp only [foeOk, Bool.and_eq_true] at this
    have g1 := nm_sm this.1
    have g2 := nm_sm this.2.1
    exact ⟨by unfold mdT; omega, by unfold mdT; omega⟩
  · obtain ⟨a1, _, _, a4, _⟩ := spotOk_iff.1 (o.so s hs)
    have := nm_sm a1
    exact ⟨by unfold mdT; omega, nms_md (by omega) a4⟩
  · exact want_md (o.po p.1 (List.mem_map.2 ⟨p, hp, rfl⟩)).2.1 |>.mono (by omega)
theorem insT_md {n : Nat} {l : List Txt} {x : Txt} (h : mdL n l) (hx : mdT x) : mdL (n + 1) (insT l x) :=
  ⟨by have := insT_length l x; have := h.1; omega, fun y hy => by
    rcases insT_mem.1 hy with rfl | hy
    · exact hx
    · exact h.2 y hy⟩
theorem insG {N : Nat} (hN : lim < N) {n : Nat} {l : List Txt} {x : Txt} (h : mdL n l) (hn : n ≤ 2000) (hx : mdT x) : Gives (f_51 N l x) (mdL (n + 1)) :=
  ⟨_, l3Insert hN (by have := h.1; omega) x, insT_md h hx⟩
theorem draw8 {N : Nat} (hN : lim < N) {number t0 t1 kind : Int} {st : List Txt} {us : List Use} {r10 r11 : List Txt × Rdr} (h0 : r10.1.length ≤ 100) (h1 : mdL 50 r11.1) :
    Gives (f_79_8 N number t0 t1 kind st us r10 r11 N 0 []) fun q => q.2 = r11.2 ∧ ∃ o, mdL 50 o ∧ q.1 = (number, kind, st, us, o, r10.1) := by
  have hlim := lim_eq
  have hl := h1.1
  refine lp_post r11.1.length (fun (g : Int → List Txt → Option (Want × Rdr)) i (o : List Txt) => g i o) (z := fun _ _ => none) (rd := fun next => f_79_8r N number t0 t1 kind st us r10 r11 next) (fun i o => mdL i o) (fun g i o hi hv on => ?_) (fun g o hv => ?_) (N := N) (st := []) (by omega) ⟨by simp, by simp⟩
  · have := hv.1
    unfold f_79_8r
    simp only [wrS (show i ≤ 1000000000000000000 by omega), gAt hi, ob_eq (l1Has hN (show r10.1.length ≤ lim by omega) _)]
    exact gIf (by omega) (gIf (by omega) (gIf (by omega) (gBy (fun _ => gIf (by omega) (gIf (by omega) (gIf (by omega) (on _ ⟨by simp; omega, fun x hx => by
      rcases List.mem_append.1 hx with hx | hx
      · exact hv.2 x hx
      · rw [List.mem_singleton.1 hx]; exact h1.2 _ (List.getElem_mem hi)⟩)))) fun _ => on o (hv.mono (by omega)))))
  · unfold f_79_8r
    exact gNot (by omega) (.some ⟨rfl, o, hv.mono hl, rfl⟩)
theorem draw6 {N : Nat} (hN : lim < N) {nx : Int → List Int → Int → List Txt → List Use → Option (Want × Rdr)} {b : Book} {number t0 t1 kind role am : Int} {i : Nat} {us : List Use} {nm : Txt} {P : Want × Rdr → Prop} (hbl : b.2.1.length ≤ 20) (hi : i < b.2.1.length) (hm : mdL 20 b.2.1[i].2.2.2.2) (hu : us.length ≤ 100)
    {c : Int} {r : Rdr} (hr : rdG c r) (hc : c ≤ 999999960000) {n : Nat} {st : List Txt} (hs : mdL n st) (hn : n ≤ 1500)
    (hnx : ∀ (q : Rdr) (s : List Txt), rdG (c + 20) q → mdL (n + 20) s → Gives (nx ((i + 1 : Nat) : Int) q.1 q.2 s (us ++ [(nm, role, am)])) P) :
    Gives (f_79_6 N nx b number t0 t1 kind (i : Int) us nm role am N 0 r.1 r.2 st) P := by
  have hlim := lim_eq
  have hml := hm.1
  have hg : (us.length + 1) * 32 ≤ lim := by omega
  refine lp_post b.2.1[i].2.2.2.2.length (fun (g : Int → List Int → Int → List Txt → Option (Want × Rdr)) k (s : Rdr × List Txt) => g k s.1.1 s.1.2 s.2) (z := fun _ _ _ _ => none) (rd := fun next => f_79_6r N nx b number t0 t1 kind (i : Int) us nm role am next) (fun k s => rdG (c + k) s.1 ∧ mdL (n + k) s.2)
    (fun g k s hk hv on => ?_) (fun g s hv => ?_) (N := N) (st := (r, st)) (by omega) ⟨hr.mono (by omega), hs⟩
  · have out : Gives (bif decide ((us.length + 1) * 32 ≤ lim) then nx ((i + 1 : Nat) : Int) s.1.1 s.1.2 s.2 (us ++ [(nm, role, am)]) else none) P := gIf hg (hnx _ _ (hv.1.mono (by omega)) (hv.2.mono (by omega)))
    unfold f_79_6r
    simp only [wrS (show i ≤ 1000000000000000000 by omega), wrS (show k ≤ 1000000000000000000 by omega), gAt hi, gAt hk]
    refine gIf (by omega) (gIf (by omega) (gIf (by omega) (gBy (fun _ => gBy (fun _ => ?_) fun _ => out) fun _ => out)))
    refine (pickG hv.1 (by omega) (by omega)).ob fun p hp => gDec (fun _ => gIf (by omega) (gIf (by omega) (gIf (by omega) (gIf (by omega) ?_)))) fun _ => gIf hg (hnx _ _ (hp.2.2.mono (by omega)) (hv.2.mono (by omega)))
    exact (insG hN hv.2 (by omega) (hm.2 _ (List.getElem_mem hk))).ob fun s' hs' => on (p.2, s') ⟨hp.2.2.mono (by omega), hs'⟩
  · unfold f_79_6r
    simp only [wrS (show i ≤ 1000000000000000000 by omega), gAt hi]
    exact gIf (by omega) (gIf (by omega) (gNot (by omega) (gIf hg (hnx _ _ (hv.1.mono (by omega)) (hv.2.mono (by omega))))))
theorem draw2 {N : Nat} (hN : lim < N) {nx : Int → List Int → Int → List Txt → Option (Want × Rdr)} {b : Book} {number t0 t1 kind : Int} {i : Nat} {r3 : Int × Rdr} {P : Want × Rdr → Prop} (hbl : b.2.1.length ≤ 20) (hi : i < b.2.1.length) (hm : mdL 20 b.2.1[i].2.2.2.2)
    {n : Nat} {st : List Txt} (hs : mdL n st) (hn : n ≤ 1500) (hnx : ∀ (s : List Txt), mdL (n + 20) s → Gives (nx ((i + 1 : Nat) : Int) r3.2.1 r3.2.2 s) P) :
    Gives (f_79_2 N nx b number t0 t1 kind (i : Int) r3 N 0 st) P := by
  have hlim := lim_eq
  have hml := hm.1
  refine lp_post b.2.1[i].2.2.2.2.length (fun (g : Int → List Txt → Option (Want × Rdr)) k (s : List Txt) => g k s) (z := fun _ _ => none) (rd := fun next => f_79_2r N nx b number t0 t1 kind (i : Int) r3 next) (fun k s => mdL (n + k) s)
    (fun g k s hk hv on => ?_) (fun g s hv => ?_) (N := N) (st := st) (by omega) hs
  · unfold f_79_2r
    simp only [wrS (show i ≤ 1000000000000000000 by omega), wrS (show k ≤ 1000000000000000000 by omega), gAt hi, gAt hk]
    exact gIf (by omega) (gIf (by omega) (gIf (by omega) (gIf (by omega) (gIf (by omega) (gIf (by omega) (gIf (by omega) ((insG hN hv (by omega) (hm.2 _ (List.getElem_mem hk))).ob fun s' hs' => on s' hs')))))))
  · unfold f_79_2r
    simp only [wrS (show i ≤ 1000000000000000000 by omega), gAt hi]
    exact gIf (by omega) (gIf (by omega) (gNot (by omega) (hnx _ (hv.mono (by omega)))))
theorem draw4 {N : Nat} (hN : lim < N) {b : Book} (hb : mdB b) {number t0 t1 kind : Int} {c : Int} {r : Rdr} (hr : rdG c r) (hc : c ≤ 999999950000) {st : List Txt} (hs : mdL 500 st) :
    Gives (f_79_4 N b number t0 t1 kind N 0 r.1 r.2 st []) fun q => rdG (c + 1000) q.2 ∧ mdW 50 q.1 := by
  have hlim := lim_eq
  have hl := hb.2.1.1
  have hv50 := hb.2.2.1
  have sub50 : ∀ {o : List Txt}, o.Sublist b.2.2.1 → mdL 50 o := fun {o} h => ⟨Nat.le_trans h.length_le hv50.1, fun x hx => hv50.2 x (h.subset hx)⟩
  refine lp_post b.2.1.length (fun (g : Int → List Int → Int → List Txt → List Use → Option (Want × Rdr)) k (s : Rdr × List Txt × List Use) => g k s.1.1 s.1.2 s.2.1 s.2.2) (z := fun _ _ _ _ _ => none) (rd := fun next => f_79_4r N (f_79_6 N next b number t0 t1 kind) (f_79_8 N) b number t0 t1 kind next) (fun k s => rdG (c + 25 * k) s.1 ∧ mdL (500 + 20 * k) s.2.1 ∧ s.2.2.length ≤ k ∧ ∀ u ∈ s.2.2, mdU u)
    (fun g k s hk hv on => ?_) (fun g s hv => ?_) (N := N) (st := (r, st, [])) (by omega) ⟨hr.mono (by omega), hs, by simp, by simp⟩
  · have hsp := hb.2.1.2 _ (List.getElem_mem hk)
    have hlen := hv.2.2.1
    have on6 : ∀ (q : Rdr) (role am : Int), rdG (c + 25 * k + 3) q → -1 ≤ am → am ≤ 1001 → Gives (f_79_6 N g b number t0 t1 kind (k : Int) s.2.2 b.2.1[k].1 role am N 0 q.1 q.2 s.2.1) fun q => rdG (c + 1000) q.2 ∧ mdW 50 q.1 := fun q role am hq a1 a2 =>
      draw6 hN hl hk hsp.2 (by omega) hq (by omega) hv.2.1 (by omega) fun q' s' hq' hs' => on (q', s', s.2.2 ++ [(b.2.1[k].1, role, am)]) ⟨hq'.mono (by omega), hs'.mono (by omega), by simp; omega, fun u hu => by
        rcases List.mem_append.1 hu with hu | hu
        · exact hv.2.2.2 u hu
        · rw [List.mem_singleton.1 hu]; exact ⟨hsp.1, a1, a2⟩⟩
    unfold f_79_4r
    simp only [wrS (show k ≤ 1000000000000000000 by omega), gAt hk]
    refine gIf (by omega) ((pickG hv.1 (by omega) (by omega)).ob fun p hp => gDec (fun _ => on (p.2, s.2) ⟨hp.2.2.mono (by omega), hv.2.1.mono (by omega), Nat.le_succ_of_le hlen, hv.2.2.2⟩) fun _ => gIf (by omega) (gIf (by omega) (gBy (fun _ => gIf (by omega) (gIf (by omega) (gDec (fun _ => ?_) fun _ => on6 _ 3 0 (hp.2.2.mono (by omega)) (by omega) (by omega)))) fun _ => on6 _ 3 0 (hp.2.2.mono (by omega)) (by omega) (by omega))))
    refine (pickG hp.2.2 (by omega) (by omega)).ob fun p2 hp2 => (pickG hp2.2.2 (by omega) (by omega)).ob fun p3 hp3 => ?_
    rw [wr (n := 1 + p3.1) (by omega) (by omega)]
    exact on6 _ _ _ (hp3.2.2.mono (by omega)) (by omega) (by omega)
  · have hlen := hv.2.2.1
    have h50 := hv50.1
    have hus : s.2.2.length ≤ 50 ∧ ∀ u ∈ s.2.2, mdU u := ⟨by omega, hv.2.2.2⟩
    have hst : mdL 1000 s.2.1 := hv.2.1.mono (by omega)
    unfold f_79_4r
    refine gNot (by omega) ((l5Some hN hv.1 (by omega) (by omega) 4).ob fun p hp => gBy (fun _ => ?_) fun _ => .some ⟨hp.1.mono (by omega), hst, hus, ⟨by simp, by simp⟩, sub50 hp.2⟩)
    refine (l5Some hN hp.1 (by omega) (by omega) 3).ob fun p2 hp2 => ?_
    refine (draw8 hN (by have := (sub50 hp.2).1; omega) (sub50 hp2.2)).mono fun q ⟨h1, o, h2, h3⟩ => ?_
    rw [h1, h3]
    exact ⟨hp2.1.mono (by omega), hst, hus, h2, sub50 hp.2⟩
theorem l5Draw {N : Nat} (hN : lim < N) {b : Book} (hb : mdB b) {c : Int} {r : Rdr} (hr : rdG c r) (hc : c ≤ 999999940000) (number : Int) : Gives (f_79 N r b number) fun q => rdG (c + 1100) q.2 ∧ mdW 50 q.1 := by
  have hlim := lim_eq
  have hl := hb.2.1.1
  unfold f_79 f_79b
  refine (pickG hr (by omega) (by omega)).ob fun p hp => gIf hp.1 (gIf (by simp only [List.length_cons, List.length_nil]; omega) (gBy (fun _ => ?_) fun _ => (draw4 hN hb hp.2.2 (by omega) ⟨by simp, by simp⟩).mono fun q h => ⟨h.1.mono (by omega), h.2⟩))
  refine (rdOf hp.2.2 (by omega) (by decide)).ob fun x hx => ?_
  have hxt : mdT x.1 := by
    have := hx.1
    simp only [List.mem_cons, List.not_mem_nil, or_false] at this
    rcases this with e | e | e | e <;> rw [e] <;> unfold mdT <;> decide
  generalize [1, 1, 1, 2, 3].getD (Int.toNat p.1) (Int.ofNat 0) = kind
  refine lp_post b.2.1.length (fun (g : Int → List Int → Int → List Txt → Option (Want × Rdr)) k (s : Rdr × List Txt) => g k s.1.1 s.1.2 s.2) (z := fun _ _ _ _ => none) (rd := fun next => f_79_0r N (f_79_2 N next b number 0 0 kind) (f_79_4 N) b number 0 0 kind next) (fun k s => rdG (c + 2 + k) s.1 ∧ mdL (1 + 20 * k) s.2)
    (fun g k s hk hv on => ?_) (fun g s hv => ?_) (N := N) (st := (x.2, [x.1])) (by omega) ⟨hx.2.mono (by omega), by simp, fun y hy => by rw [List.mem_singleton.1 hy]; exact hxt⟩
  · unfold f_79_0r
    refine gIf (by omega) ((pickG hv.1 (by omega) (by omega)).ob fun p hp => gBy (fun _ => ?_) fun _ => (draw4 hN hb hp.2.2 (by omega) (hv.2.mono (by omega))).mono fun q h => ⟨h.1.mono (by omega), h.2⟩)
    exact draw2 hN hl hk (hb.2.1.2 _ (List.getElem_mem hk)).2 hv.2 (by omega) fun s' hs' => on (p.2, s') ⟨hp.2.2.mono (by omega), hs'.mono (by omega)⟩
  · unfold f_79_0r
    exact gNot (by omega) ((draw4 hN hb hv.1 (by omega) (hv.2.mono (by omega))).mono fun q h => ⟨h.1.mono (by omega), h.2⟩)
end Go.MC
namespace Go.MC
open Go.MC.F
theorem decF {N : Nat} : ∀ (k m : Nat) (n : Int), k ≤ m → k ≤ 17 → 0 ≤ n → n < 10 ^ (k + 1) → Gives (f_93F N m n) fun t => t.length ≤ k + 1
  | 0, m, n, hkm, hk, h0, h1 => by
    have h1 : n < 10 := by simpa using h1
    cases m <;> (unfold f_93F; exact gNot (by omega) (gIf h1 (.some (by simp))))
  | k + 1, 0, n, hkm, _, _, _ => by omega
  | k + 1, m + 1, n, hkm, hk, h0, h1 => by
    have hlim := lim_eq
    unfold f_93F
    refine gNot (by omega) (gDec (fun _ => .some (by simp)) fun h => ?_)
    have hp : (10 : Int) ^ (k + 1 + 1) = 10 ^ (k + 1) * 10 := Int.pow_succ ..
    have hb : (10 : Int) ^ (k + 1 + 1) ≤ 1000000000000000000 := by
      have : (10 : Int) ^ (k + 1 + 1) = ((10 ^ (k + 1 + 1) : Nat) : Int) := by simp
      rw [this]
      have : 10 ^ (k + 1 + 1) ≤ 10 ^ 18 := Nat.pow_le_pow_right (by omega) (by omega)
      omega
    have hd : n.tdiv 10 = n / 10 := Int.tdiv_eq_ediv_of_nonneg h0
    rw [hd, wr (by omega) (by omega)]
    refine (decF k m (n / 10) (by omega) (by omega) (by omega) (by omega)).ob fun t ht => gIf (by simp; omega) (.some (by simp; omega))
theorem l5Dec2 {N : Nat} {n : Int} (h0 : 0 ≤ n) (h1 : n < 100) : Gives (f_93 N n) fun t => t.length ≤ 2 := decF 1 64 n (by omega) (by omega) h0 (by simpa using h1)
theorem mdT_in {l : List Txt} (hl : ∀ x ∈ l, mdT x) {x : Txt} (h : x ∈ l) : mdT x := hl x h
theorem mdL.add {n : Nat} {l : List Txt} {x : Txt} (h : mdL n l) (hx : mdT x) : mdL (n + 1) (l ++ [x]) := ⟨by have := h.1; simp; omega, fun y hy => by
  rcases List.mem_append.1 hy with hy | hy
  · exact h.2 y hy
  · rw [List.mem_singleton.1 hy]; exact hx⟩
theorem getD_or {α : Type} {l : List α} {i : Nat} {d : α} {P : α → Prop} (hl : ∀ x ∈ l, P x) (hd : P d) : P (l.getD i d) := by
  rw [List.getD_eq_getElem?_getD]
  cases hi : l[i]? with
  | none => exact hd
  | some x => exact hl x (List.mem_of_getElem? hi)
theorem mem_set {α : Type} {l : List α} {i : Nat} {x : α} {P : α → Prop} (hl : ∀ y ∈ l, P y) (hx : P x) : ∀ y ∈ l.set i x, P y := fun y hy => by
  rcases List.mem_or_eq_of_mem_set hy with h | h
  · exact hl y h
  · rw [h]; exact hx
theorem l5SpoilWant {N : Nat} (hN : lim < N) {w : Want} (hw : mdW 50 w) {c : Int} {r : Rdr} (hr : rdG c r) (hc : c ≤ 999999940000) : Gives (f_29 N r w) fun q => rdG (c + 10) q.2 ∧ mdW 100 q.1 := by
  have hlim := lim_eq
  have hw100 := hw.mono (show 50 ≤ 100 by omega)
  have three : ∀ x ∈ ([[], [97], [122, 122]] : List Txt), mdT x := by unfold mdT; decide
  have three' : ∀ x ∈ ([[], [107, 101, 103], [122, 122]] : List Txt), mdT x := by unfold mdT; decide
  have hu := hw.2.1.1
  have ho := hw.2.2.1.1
  have hs := hw.2.2.2.1
  unfold f_29 f_29b
  rw [ob_eq (l1Want (hw.sm (by omega)))]
  refine (pickG hr (by omega) (by omega)).ob fun p hp => gBy (fun _ => ?_) fun _ => gBy (fun _ => ?_) fun _ => gBy (fun _ => ?_) fun _ => gBy (fun _ => ?_) fun _ => gBy (fun _ => ?_) fun _ => gBy (fun _ => ?_) fun _ => gBy (fun _ => ?_) fun _ => ?_
  · exact (pickG hp.2.2 (by omega) (by omega)).ob fun q hq => gIf hq.1 (gIf (by simp only [List.length_cons, List.length_nil]; omega) (.some ⟨hq.2.2.mono (by omega), hw100⟩))
  · exact (pickG hp.2.2 (by omega) (by omega)).ob fun q hq => .some ⟨hq.2.2.mono (by omega), hw100⟩
  · refine (pickG hp.2.2 (by omega) (by omega)).ob fun q hq => gIf hq.1 (gIf (by simp only [List.length_cons, List.length_nil]; omega) (.some ⟨hq.2.2.mono (by omega), ?_, hw100.2⟩))
    exact getD_or (P := mdL 1000) (by unfold mdL mdT; decide) (by unfold mdL mdT; decide)
  · exact (rdOf hp.2.2 (by omega) (by decide)).ob fun x hx => (pickG hx.2 (by omega) (by omega)).ob fun q hq => (pickG hq.2.2 (by omega) (by omega)).ob fun q2 hq2 => gIf (by omega) (.some ⟨hq2.2.2.mono (by omega), hw.1, ⟨by simp; omega, fun u hu => by
      rcases List.mem_append.1 hu with hu | hu
      · exact hw.2.1.2 u hu
      · rw [List.mem_singleton.1 hu]; exact ⟨three' _ hx.1, by show -1 ≤ q2.1; omega, by show q2.1 ≤ 1001; omega⟩⟩, hw100.2.2⟩)
  · refine gDec (fun h => ?_) fun _ => .some ⟨hp.2.2.mono (by omega), hw100⟩
    refine (pickG hp.2.2 (by omega) (by omega)).ob fun q hq => (pickG hq.2.2 (by omega) (by omega)).ob fun q2 hq2 => gIf hq2.1 (gIf (by simp only [List.length_cons, List.length_nil]; omega) (gIf hq.1 (gIf hq.2.1 (.some ⟨hq2.2.2.mono (by omega), hw.1, ⟨by simp; omega, ?_⟩, hw100.2.2⟩))))
    have hm := hw.2.1.2 _ (getD_mem (show q.1.toNat < w.2.2.2.1.length by omega) dUse)
    exact mem_set hw.2.1.2 ⟨hm.1, getD_or (P := fun z : Int => -1 ≤ z ∧ z ≤ 1001) (by decide) (by decide)⟩
  · exact (rdOf hp.2.2 (by omega) (by decide)).ob fun x hx => gIf (by omega) (.some ⟨hx.2.mono (by omega), hw.1, hw100.2.1, (hw.2.2.1.add (three _ hx.1)).mono (by omega), hw100.2.2.2⟩)
  · exact (rdOf hp.2.2 (by omega) (by decide)).ob fun x hx => gIf (by omega) (.some ⟨hx.2.mono (by omega), hw.1, hw100.2.1, hw100.2.2.1, (hw.2.2.2.add (three _ hx.1)).mono (by omega)⟩)
  · refine (pickG hp.2.2 (by omega) (by omega)).ob fun q hq => ?_
    rw [wr (by omega) (by omega)]
    refine lp_post 14 (fun (g : Int → List Txt → Option (Want × Rdr)) i (o : List Txt) => g i o) (z := fun _ _ => none) (rd := fun next => f_29_1r N w q (12 + q.1) 0 0 next) (fun i o => mdL (50 + i) o ∧ i ≤ o.length) (fun g i o hi hv on => ?_) (fun g o hv => ?_) (N := N) (st := w.2.2.2.2.2) (by omega) ⟨hw.2.2.2, by omega⟩
    · have hl := hv.1.1
      unfold f_29_1r
      simp only [wrS (show i ≤ 1000000000000000000 by omega)]
      rw [wr (n := 10 + (i : Int)) (by omega) (by omega)]
      exact gDec (fun _ => (l5Dec2 (by omega) (by omega)).ob fun t ht => gIf (by omega) (gIf (by omega) (on _ ⟨hv.1.add (by unfold mdT; simp; omega), by simp; omega⟩))) fun _ => .some ⟨hq.2.2.mono (by omega), hw.1, hw100.2.1, hw100.2.2.1, hv.1.mono (by omega)⟩
    · unfold f_29_1r
      have := hv.2
      exact gNot (by omega) (.some ⟨hq.2.2.mono (by omega), hw.1, hw100.2.1, hw100.2.2.1, hv.1.mono (by omega)⟩)
theorem l5Moved {N : Nat} (hN : lim < N) {b : Book} (hb : mdB b) {c : Int} {r : Rdr} (hr : rdG c r) (hc : c ≤ 999999940000) (number : Int) : Gives (f_63 N r b number) fun q => rdG (c + 4) q.2 ∧ -1 ≤ q.1 ∧ q.1 ≤ 1002 := by
  have hlim := lim_eq
  have last : ∀ {most : Int}, -1 ≤ most → most ≤ 1001 → Gives (ob (f_38 N r (IntKind.i64.wrap (most + 2))) (Int.ofNat 0, [], Int.ofNat 0) fun r_2 => ob (f_38 N r_2.2 2) (Int.ofNat 0, [], Int.ofNat 0) fun r_3 => ob (f_38 N r_3.2 2) (Int.ofNat 0, [], Int.ofNat 0) fun r_4 => ob (f_38 N r_4.2 2) (Int.ofNat 0, [], Int.ofNat 0) fun r_5 => some (IntKind.i64.wrap (r_2.1 - IntKind.i64.wrap (IntKind.i64.wrap (r_3.1 * r_4.1) * r_5.1)), r_5.2)) fun q => rdG (c + 4) q.2 ∧ -1 ≤ q.1 ∧ q.1 ≤ 1002 := fun {most} h0 h1 => by
    rw [wr (by omega) (by omega)]
    refine (pickG hr (by omega) (by omega)).ob fun a ha => (pickG ha.2.2 (by omega) (by omega)).ob fun b hb => (pickG hb.2.2 (by omega) (by omega)).ob fun d hd => (pickG hd.2.2 (by omega) (by omega)).ob fun e he => .some ⟨he.2.2.mono (by omega), ?_⟩
    have h2 : 0 ≤ b.1 * d.1 ∧ b.1 * d.1 ≤ 1 := by
      rcases (by omega : b.1 = 0 ∨ b.1 = 1) with h | h <;> rw [h] <;> omega
    have h3 : 0 ≤ b.1 * d.1 * e.1 ∧ b.1 * d.1 * e.1 ≤ 1 := by
      rcases (by omega : e.1 = 0 ∨ e.1 = 1) with h | h <;> rw [h] <;> omega
    simp only [wr (n := b.1 * d.1) (by omega) (by omega), wr (n := b.1 * d.1 * e.1) (by omega) (by omega), wr (n := a.1 - b.1 * d.1 * e.1) (by omega) (by omega)]
    omega
  unfold f_63 f_63b
  rw [ob_eq (l2Part hN hb.sm number)]
  refine lp_post (partX b number).1.2.2.2.1.length (fun (g : Int → Int → Option (Int × Rdr)) i (m : Int) => g m i) (z := fun _ _ => none) (rd := fun next => f_63_0r N r b (partAt b number) next) (fun i m => -1 ≤ m ∧ m ≤ 1001) (fun g i m hi hv on => ?_) (fun g m hv => ?_) (N := N) (st := 3) ?_ (by omega)
  · unfold f_63_0r
    refine gDec (fun h => ?_) fun _ => last hv.1 hv.2
    have hlt := partAt_lt h
    have hpx : mdW 100 (partX b number).1 := hb.2.2.2.1.2 _ (partX_mem h)
    rw [show b.2.2.2.1.getD (Int.toNat (partAt b number)) dPart = partX b number from rfl]
    have hmu := hpx.2.1.2 _ (List.getElem_mem hi)
    have := hpx.2.1.1
    simp only [wrS (show i ≤ 1000000000000000000 by omega), gAt hi]
    exact gIf h (gIf hlt (gIf (by omega) (gIf h (gIf hlt (gIf (by omega) (gIf (by omega) (gBy (fun _ => gDec (fun _ => on _ hmu.2) fun _ => gBy (fun _ => on _ hmu.2) fun _ => on _ hv) fun _ => on _ hv)))))))
  · unfold f_63_0r
    refine gDec (fun h => ?_) fun _ => last hv.1 hv.2
    have hlt := partAt_lt h
    rw [show b.2.2.2.1.getD (Int.toNat (partAt b number)) dPart = partX b number from rfl]
    exact gIf h (gIf hlt (gNot (by omega) (last hv.1 hv.2)))
  · by_cases h : 0 ≤ partAt b number
    · have hpx : mdW 100 (partX b number).1 := hb.2.2.2.1.2 _ (partX_mem h)
      have := hpx.2.1.1
      omega
    · have : partX b number = b.2.2.2.1.getD 0 dPart := by unfold partX; rw [show (partAt b number).toNat = 0 by omega]
      rw [this]
      have := getD_or (l := b.2.2.2.1) (i := 0) (d := dPart) (P := fun p => p.1.2.2.2.1.length ≤ 100) (fun p hp => (hb.2.2.2.1.2 p hp).2.1.1) (by simp)
      omega
theorem none_md {n : Nat} : mdW n (0, 0, [], [], [], []) := ⟨⟨by simp, by simp⟩, ⟨by simp, by simp⟩, ⟨by simp, by simp⟩, ⟨by simp, by simp⟩⟩
def mdDo (d : Do) : Prop := mdW 100 d.1 ∧ -1 ≤ d.2.2.2.1 ∧ d.2.2.2.1 ≤ 1002
theorem l5Does {N : Nat} (hN : lim < N) {b : Book} (hb : mdB b) (hp50 : ∀ p ∈ b.2.2.2.1, mdW 100 p.1) {c : Int} {r : Rdr} (hr : rdG c r) (hc : c ≤ 999999930000) : Gives (f_78 N r b) fun q => rdG (c + 1200) q.2 ∧ mdDo q.1 := by
  have hs := hb.2.2.2.2
  have z : ∀ {a x y : Int} {e : Bool}, -1 ≤ y → y ≤ 1002 → mdDo ((0, 0, [], [], [], []), a, x, y, e) := fun h1 h2 => ⟨none_md, h1, h2⟩
  unfold f_78
  refine (pickG hr (by omega) (by omega)).ob fun p hp => gBy (fun _ => ?_) fun _ => gBy (fun _ => ?_) fun _ => gBy (fun _ => ?_) fun _ => gBy (fun _ => ?_) fun _ => ?_
  · exact (l5Of hp.2.2 (by omega) b).ob fun q hq => .some ⟨hq.mono (by omega), z (by omega) (by omega)⟩
  · exact (l5Of hp.2.2 (by omega) b).ob fun q hq => .some ⟨hq.mono (by omega), z (by omega) (by omega)⟩
  · exact (l5Of hp.2.2 (by omega) b).ob fun q hq => (l5Moved hN hb hq (by omega) _).ob fun m hm => (pickG hm.1 (by omega) (by omega)).ob fun e he => .some ⟨he.2.2.mono (by omega), z hm.2.1 hm.2.2⟩
  · exact (l5Of hp.2.2 (by omega) b).ob fun q hq => (l5Moved hN hb hq (by omega) _).ob fun m hm => (pickG hm.1 (by omega) (by omega)).ob fun e he => .some ⟨he.2.2.mono (by omega), z hm.2.1 hm.2.2⟩
  · refine (pickG hp.2.2 (by omega) (by omega)).ob fun q hq => (l5Draw hN hb hq.2.2 (by omega) _).ob fun w hw => (pickG hw.1 (by omega) (by omega)).ob fun k hk => ?_
    have hw100 := hw.2.mono (show 50 ≤ 100 by omega)
    refine gBy (fun _ => ?_) fun _ => gBy (fun _ => ?_) fun _ => gBy (fun _ => gDec (fun h => ?_) fun _ => ?_) fun _ => ?_
    · exact (pick0 hk.2.2 (by omega) _).ob fun n hn => .some ⟨hn.2.2.mono (by omega), hw100, (by decide : (-1 : Int) ≤ 0), (by decide : (0 : Int) ≤ 1002)⟩
    · exact (l5SpoilWant hN hw.2 hk.2.2 (by omega)).ob fun n hn => .some ⟨hn.1.mono (by omega), hn.2, (by decide : (-1 : Int) ≤ 0), (by decide : (0 : Int) ≤ 1002)⟩
    · refine (pickG hk.2.2 (by omega) (show (1 : Int) ≤ (b.2.2.2.1.length : Int) by omega)).ob fun n hn => gIf hn.1 (gIf hn.2.1 ?_)
      have hm := hp50 _ (getD_mem (show n.1.toNat < b.2.2.2.1.length by omega) dPart)
      rw [ob_eq (l1Want (hm.sm (by omega)))]
      exact .some ⟨hn.2.2.mono (by omega), hm, (by decide : (-1 : Int) ≤ 0), (by decide : (0 : Int) ≤ 1002)⟩
    · exact .some ⟨hk.2.2.mono (by omega), hw100, (by decide : (-1 : Int) ≤ 0), (by decide : (0 : Int) ≤ 1002)⟩
    · exact .some ⟨hk.2.2.mono (by omega), hw100, (by decide : (-1 : Int) ≤ 0), (by decide : (0 : Int) ≤ 1002)⟩
def stepB (b : Book) (d : Do) : Book := bif decide (d.2.1 > 0) then (stopB b d.2.1).1 else bif decide (d.2.2.1 > 0) then (overB b d.2.2.1 d.2.2.2.1 d.2.2.2.2).1 else (grantB b d.1).1
theorem l5Step {N : Nat} (hN : lim < N) {b : Book} (hb : smB b) {d : Do} (hd : smW d.1) : f_81 N b d = some (stepB b d) := by
  unfold f_81 stepB
  cases decide (d.2.1 > 0) with
  | true => simp only [cond_true, cond_false, ob_eq (specStop hN hb _)]
  | false =>
    cases decide (d.2.2.1 > 0) with
    | true => simp only [cond_true, cond_false, ob_eq (specOver hN hb _ _ _)]
    | false => simp only [cond_true, cond_false, ob_eq (specGrant hN hb hd)]
theorem step_ok {b : Book} (h : bookOk b = true) (d : Do) : bookOk (stepB b d) = true := by
  unfold stepB
  cases decide (d.2.1 > 0) with
  | true => exact stop_ok h
  | false =>
    cases decide (d.2.2.1 > 0) with
    | true => exact over_ok h
    | false => exact grant_ok h
theorem down1 {m i : Nat} (hm : m ≤ 1000000) (hi : i < m) : IntKind.i64.wrap (((m - i : Nat) : Int) - 1) = ((m - (i + 1) : Nat) : Int) := by
  rw [wr (by omega) (by omega)]; omega
theorem l5Book {N : Nat} (hN : lim < N) {c : Int} {r : Rdr} (hr : rdG c r) (hc : c ≤ 999999800000) : Gives (f_77 N r) fun q => rdG (c + 50000) q.2 ∧ bookOk q.1 = true := by
  have hlim := lim_eq
  unfold f_77 f_77b
  refine (l5Base hN hr (by omega)).ob fun b hb => (pickG hb.1 (by omega) (by omega)).ob fun p hp => ?_
  obtain ⟨m, hm⟩ : ∃ m : Nat, p.1 = (m : Int) := ⟨p.1.toNat, by omega⟩
  rw [hm]
  refine lp_post m (fun (g : Int → List Int → Int → List Foe → List Spot → List Txt → List Part → Int → Option (Book × Rdr)) i (s : Rdr × Book) => g ((m - i : Nat) : Int) s.1.1 s.1.2 s.2.1 s.2.2.1 s.2.2.2.1 s.2.2.2.2.1 s.2.2.2.2.2) (z := fun _ _ _ _ _ _ _ _ => none) (rd := fun next => f_77_0r N 0 next) (fun i s => rdG (c + 50 + 1200 * i) s.1 ∧ bookOk s.2 = true) (fun g i s hi hv on => ?_) (fun g s hv => ?_) (N := N) (st := (p.2, b.1)) (by omega) ⟨hp.2.2.mono (by omega), base_ok hb.2⟩
  · unfold f_77_0r
    have hmd := ok_md hv.2
    refine gIf (by omega) ((l5Does hN hmd hmd.2.2.2.1.2 hv.1 (by omega)).ob fun d hd => ?_)
    rw [ob_eq (l5Step hN (ok_sm hv.2) (hd.2.1.sm (by omega))), down1 (by omega) hi]
    exact on (d.2, stepB s.2 d.1) ⟨hd.1.mono (by omega), step_ok hv.2 d.1⟩
  · unfold f_77_0r
    exact gNot (by omega) (.some ⟨hv.1.mono (by omega), hv.2⟩)
theorem l5Spoil {N : Nat} (hN : lim < N) {b : Book} (h : bookOk b = true) {c : Int} {r : Rdr} (hr : rdG c r) (hc : c ≤ 999999900000) : Gives (f_64 N r b) fun q => rdG (c + 20) q.2 ∧ mdB q.1 := by
  have hlim := lim_eq
  have o := bookOk_iff.1 h
  have hb := ok_md h
  have l1 := hb.1.1
  have l2 := o.sl
  have l3 : b.2.2.1.length ≤ 12 := by have := nms_len o.valves; omega
  have l4 := o.pl
  have hfs : b.1.length ≤ 12 := by
    have hf := o.foes
    simp only [foesOk, Bool.and_eq_true, Bool.not_eq_true', decide_eq_false_iff_not] at hf
    omega
  have spot : ∀ (k : Nat) (s : Spot), mdS s → mdB (b.1, b.2.1.set k s, b.2.2) := fun k s hs => ⟨hb.1, ⟨by rw [List.length_set]; exact hb.2.1.1, mem_set hb.2.1.2 hs⟩, hb.2.2⟩
  have may8 : ∀ {k : Int}, 0 ≤ k → k < b.2.1.length → mdT (b.2.1.getD k.toNat dSpot).1 ∧ mdL 8 (b.2.1.getD k.toNat dSpot).2.2.2.2 := fun {k} h0 h1 => by
    have hm := getD_mem (show k.toNat < b.2.1.length by omega) dSpot
    obtain ⟨_, _, _, a4, _⟩ := spotOk_iff.1 (o.so _ hm)
    exact ⟨(hb.2.1.2 _ hm).1, nms_md (by omega) a4⟩
  have spotX : ∀ {k : Int} (h0 : 0 ≤ k) (h1 : k < b.2.1.length) (x y z : Int), mdB (b.1, b.2.1.set k.toNat ((b.2.1.getD k.toNat dSpot).1, x, y, z, (b.2.1.getD k.toNat dSpot).2.2.2.2), b.2.2) := fun h0 h1 x y z => spot _ _ ⟨(may8 h0 h1).1, (may8 h0 h1).2.mono (by omega)⟩
  unfold f_64
  rw [ob_eq (l2Copy hN (ok_sm h))]
  refine (pickG hr (by omega) (by omega)).ob fun p hp => gBy (fun _ => ?_) fun _ => gBy (fun _ => ?_) fun _ => gBy (fun _ => ?_) fun _ => gBy (fun _ => gDec (fun hl => ?a) fun _ => .some ⟨hp.2.2.mono (by omega), hb⟩) fun _ => gBy (fun _ => gDec (fun hl => ?b) fun _ => .some ⟨hp.2.2.mono (by omega), hb⟩) fun _ => gDec (fun hl => ?_) fun _ => .some ⟨hp.2.2.mono (by omega), hb⟩
  · exact (rdOf hp.2.2 (by omega) (by decide)).ob fun x hx => (rdOf hx.2 (by omega) (by decide)).ob fun y hy => gIf (by omega) (.some ⟨hy.2.mono (by omega), ⟨by simp; omega, fun f hf => by
      rcases List.mem_append.1 hf with hf | hf
      · exact hb.1.2 f hf
      · rw [List.mem_singleton.1 hf]
        exact ⟨mdT_in (l := [[97, 108, 101], [119, 97, 116, 101, 114], []]) (by unfold mdT; decide) hx.1, mdT_in (l := [[97, 108, 101], [122, 122]]) (by unfold mdT; decide) hy.1⟩⟩, hb.2⟩)
  · exact (pickG hp.2.2 (by omega) (by omega)).ob fun q hq => gIf hq.1 (gIf (by simp only [List.length_cons, List.length_nil]; omega) (.some ⟨hq.2.2.mono (by omega), hb.1, hb.2.1, hb.2.2.1, hb.2.2.2.1, getD_or (P := fun z : Int => -1 ≤ z ∧ z ≤ 1000001) (by decide) (by decide)⟩))
  · exact (rdOf hp.2.2 (by omega) (by decide)).ob fun x hx => gIf (by omega) (.some ⟨hx.2.mono (by omega), hb.1, hb.2.1, (mdL.add (n := 12) ⟨l3, hb.2.2.1.2⟩ (mdT_in (l := [[], [97], [122, 122]]) (by unfold mdT; decide) hx.1)).mono (by omega), hb.2.2.2⟩)
  case a | b =>
    refine (pickG hp.2.2 (by omega) (by omega)).ob fun k hk => (pickG hk.2.2 (by omega) (by omega)).ob fun j hj => gBy (fun _ => ?_) fun _ => gBy (fun _ => ?_) fun _ => gBy (fun _ => ?_) fun _ => gBy (fun _ => ?_) fun _ => ?_
    · exact (rdOf hj.2.2 (by omega) (by decide)).ob fun x hx => gIf hk.1 (gIf hk.2.1 (.some ⟨hx.2.mono (by omega), spot _ _ ⟨mdT_in (l := [[], [75], [122, 122], [97]]) (by unfold mdT; decide) hx.1, (may8 hk.1 hk.2.1).2.mono (by omega)⟩⟩))
    · exact (pickG hj.2.2 (by omega) (by omega)).ob fun q hq => gIf hq.1 (gIf (by simp only [List.length_cons, List.length_nil]; omega) (gIf hk.1 (gIf hk.2.1 (.some ⟨hq.2.2.mono (by omega), spotX hk.1 hk.2.1 _ _ _⟩))))
    · exact gIf hk.1 (gIf hk.2.1 ((pickG hj.2.2 (by omega) (by omega)).ob fun q hq => gIf hk.1 (gIf hk.2.1 (.some ⟨hq.2.2.mono (by omega), spotX hk.1 hk.2.1 _ _ _⟩))))
    · exact gIf hk.1 (gIf hk.2.1 ((pickG hj.2.2 (by omega) (by omega)).ob fun q hq => gIf hk.1 (gIf hk.2.1 (.some ⟨hq.2.2.mono (by omega), spotX hk.1 hk.2.1 _ _ _⟩))))
    · refine gIf hk.1 (gIf hk.2.1 ((rdOf hj.2.2 (by omega) (by decide)).ob fun x hx => ?_))
      have h8 := (may8 hk.1 hk.2.1)
      have := h8.2.1
      have hx' : mdT x.1 := mdT_in (l := [[97, 108, 101], [108, 121, 101], [122, 122], []]) (by unfold mdT; decide) hx.1
      refine gIf (by omega) (gIf hk.1 (gIf (by rw [List.length_set]; exact hk.2.1) ?_))
      refine gBy (fun _ => .some ⟨hx.2.mono (by omega), ?_⟩) fun e => by simp at e
      have hn := hk.1
      have hn2 := hk.2.1
      rw [List.set_set, getD_at (by rw [List.length_set]; omega), List.getElem_set_self]
      exact spot _ _ ⟨h8.1, (h8.2.add hx').mono (by omega)⟩
  · refine (pickG hp.2.2 (by omega) (by omega)).ob fun k hk => (pickG hk.2.2 (by omega) (by omega)).ob fun j hj => ?_
    have hm := getD_mem (show k.1.toNat < b.2.2.2.1.length by omega) dPart
    have hmw := (o.po _ (List.mem_map.2 ⟨_, hm, rfl⟩)).2.1
    refine gBy (fun _ => gIf hk.1 (gIf hk.2.1 (gIf (by omega) (.some ⟨hj.2.2.mono (by omega), hb.1, hb.2.1, hb.2.2.1, ⟨by simp; omega, fun q hq => ?_⟩, hb.2.2.2.2⟩)))) fun _ => gIf hk.1 (gIf hk.2.1 ?_)
    · rcases List.mem_append.1 hq with hq | hq
      · exact hb.2.2.2.1.2 q hq
      · rw [List.mem_singleton.1 hq]; exact (want_md hmw).mono (by omega)
    · exact (l5SpoilWant hN (want_md hmw) hj.2.2 (by omega)).ob fun x hx => gIf hk.1 (gIf hk.2.1 (.some ⟨hx.1.mono (by omega), hb.1, hb.2.1, hb.2.2.1, ⟨by rw [List.length_set]; exact hb.2.2.2.1.1, mem_set hb.2.2.2.1.2 hx.2⟩, hb.2.2.2.2⟩))
theorem l5Any {N : Nat} (hN : lim < N) {c : Int} {r : Rdr} (hr : rdG c r) (hc : c ≤ 999999800000) : Gives (f_92 N r) fun q => rdG (c + 51000) q.2 ∧ mdB q.1 := by
  unfold f_92
  exact (l5Book hN hr hc).ob fun b hb => (pickG hb.1 (by omega) (by omega)).ob fun p hp => gBy (fun _ => (l5Spoil hN hb.2 hp.2.2 (by omega)).ob fun q hq => .some ⟨hq.1.mono (by omega), hq.2⟩) fun _ => .some ⟨hp.2.2.mono (by omega), ok_md hb.2⟩
theorem bytes_of {code : List Int} (h : Fit (.slice (.int .u8)) code) : ∀ x ∈ code, 0 ≤ x ∧ x ≤ 255 := fun x hx => by
  have : IntKind.has .u8 x := h.2 x hx
  have h2 : IntKind.min .u8 ≤ x ∧ x ≤ IntKind.max .u8 := this
  have e1 : IntKind.min .u8 = 0 := rfl
  have e2 : IntKind.max .u8 = 255 := by decide
  omega
theorem open_rd {code : List Int} (h : ∀ x ∈ code, 0 ≤ x ∧ x ≤ 255) : rdG 0 (List.drop (Int.toNat 0) (List.take (Int.toNat 2000) code), 0) := by
  refine ⟨?_, fun x hx => h x (List.mem_of_mem_take (List.mem_of_mem_drop hx)), Int.le_refl 0, Int.le_refl 0⟩
  simp only [List.length_drop, List.length_take]
  have : Int.toNat 2000 = 2000 := rfl
  omega
theorem open_all {code : List Int} (h : ∀ x ∈ code, 0 ≤ x ∧ x ≤ 255) (hl : ¬ (code.length : Int) > 2000) : rdG 0 (code, 0) := ⟨by show code.length ≤ 2000; omega, h, Int.le_refl 0, Int.le_refl 0⟩
end Go.MC
namespace Go.MC
open Go.MC.F
theorem wTexts {N : Nat} (hN : lim < N) {a : List Txt} (h : a.length ≤ 1048576) : f_68 N a a = some true := by
  have hlim := lim_eq
  unfold f_68 f_68b
  simp only [bne_self_eq_false, cond_false]
  refine (lp_allI a _ (fun _ _ => true) (some false) (some true) (fun g i hi => ?_) (fun g => ?_) N (by omega)).trans ?_
  · unfold f_68_0r
    simp only [dlt hi, dge, gAt hi, cond_true, wrS (show i ≤ 1000000000000000000 by omega), beq_self_eq_true, Bool.not_true, cond_false]
  · unfold f_68_0r
    rw [dnlt]; rfl
  · rw [show allI (fun _ (_ : Txt) => true) 0 a = true from allI_iff.2 fun _ _ _ => rfl]; rfl
theorem wWant {N : Nat} (hN : lim < N) {w : Want} (h : smW w) : f_88 N w w = some true := by
  have hlim := lim_eq
  have hu := h.2.1.1
  unfold f_88 f_88b
  simp only [bne_self_eq_false, cond_false, ob_eq (wTexts hN h.1.1), ob_eq (wTexts hN h.2.2.1.1), ob_eq (wTexts hN h.2.2.2.1), Bool.not_true]
  refine (lp_allI w.2.2.2.1 _ (fun _ _ => true) (some false) (some true) (fun g i hi => ?_) (fun g => ?_) N (by omega)).trans ?_
  · unfold f_88_0r
    simp only [dlt hi, dge, gAt hi, cond_true, wrS (show i ≤ 1000000000000000000 by omega), beq_self_eq_true, Bool.and_self, Bool.not_true, cond_false]
  · unfold f_88_0r
    rw [dnlt]; rfl
  · rw [show allI (fun _ (_ : Use) => true) 0 w.2.2.2.1 = true from allI_iff.2 fun _ _ _ => rfl]; rfl
theorem wBook {N : Nat} (hN : lim < N) {b : Book} (h : smB b) : f_85 N b b = some true := by
  have hlim := lim_eq
  have h1 := h.1.1
  have h2 := h.2.1.1
  have h4 := h.2.2.2.1
  unfold f_85 f_85b
  simp only [bne_self_eq_false, cond_false, ob_eq (wTexts hN h.2.2.1.1), Bool.not_true]
  have k4 : f_85_4 N b b N 0 = some true := by
    refine (lp_allI b.2.2.2.1 _ (fun _ _ => true) (some false) (some true) (fun g i hi => ?_) (fun g => ?_) N (by omega)).trans ?_
    · unfold f_85_4r
      simp only [dlt hi, dge, gAt hi, cond_true, wrS (show i ≤ 1000000000000000000 by omega), beq_self_eq_true, Bool.not_true, cond_false, ob_eq (wWant hN (h.2.2.2.2 _ (List.getElem_mem hi)))]
    · unfold f_85_4r
      rw [dnlt]; rfl
    · rw [show allI (fun _ (_ : Part) => true) 0 b.2.2.2.1 = true from allI_iff.2 fun _ _ _ => rfl]; rfl
  have k2 : f_85_2 N b b N 0 = some true := by
    refine (lp_allI b.2.1 _ (fun _ _ => true) (some false) (some true) (fun g i hi => ?_) (fun g => ?_) N (by omega)).trans ?_
    · unfold f_85_2r
      simp only [dlt hi, dge, gAt hi, cond_true, wrS (show i ≤ 1000000000000000000 by omega), beq_self_eq_true, bne_self_eq_false, Bool.not_true, cond_false, ob_eq (wTexts hN (h.2.1.2 _ (List.getElem_mem hi)).2.1)]
    · unfold f_85_2r
      rw [dnlt]; exact k4
    · rw [show allI (fun _ (_ : Spot) => true) 0 b.2.1 = true from allI_iff.2 fun _ _ _ => rfl]; rfl
  refine (lp_allI b.1 _ (fun _ _ => true) (some false) (some true) (fun g i hi => ?_) (fun g => ?_) N (by omega)).trans ?_
  · unfold f_85_0r
    simp only [dlt hi, dge, gAt hi, cond_true, wrS (show i ≤ 1000000000000000000 by omega), beq_self_eq_true, Bool.and_self, Bool.not_true, cond_false]
  · unfold f_85_0r
    rw [dnlt]; exact k2
  · rw [show allI (fun _ (_ : Foe) => true) 0 b.1 = true from allI_iff.2 fun _ _ _ => rfl]; rfl
def wantOf (b : Book) (n : Int) : Want := ((b.2.2.2.1.find? fun p => p.1.1 == n).map (·.1)).getD dWant
theorem wPart {N : Nat} (hN : lim < N) {b : Book} (h : smB b) (n : Int) : f_86 N b n = some (wantOf b n) := by
  have hlim := lim_eq
  have h4 := h.2.2.2.1
  unfold f_86 f_86b wantOf
  refine lp_find b.2.2.2.1 _ (fun p : Part => p.1.1 == n) (·.1) dWant (fun g i hi => ?_) (fun g => ?_) N (by omega)
  · unfold f_86_0r
    simp only [dlt hi, dge, gAt hi, cond_true, wrS (show i ≤ 1000000000000000000 by omega)]
  · unfold f_86_0r
    rw [dnlt]; rfl
theorem wantOf_at {b : Book} (h : bookOk b = true) {n : Int} (hp : 0 ≤ partAt b n) : wantOf b n = (partX b n).1 := by
  obtain ⟨j, hj, e1, e2⟩ := idxB_mem (p := fun q : Part => q.1.1 == n) (l := b.2.2.2.1) (i := 0) hp
  have e : partX b n = b.2.2.2.1[j] := by
    unfold partX
    rw [show partAt b n = ((0 + j : Nat) : Int) from e1, Int.toNat_natCast, Nat.zero_add, getD_at hj]
  unfold wantOf
  cases hf : b.2.2.2.1.find? fun p => p.1.1 == n with
  | none =>
    have := List.find?_eq_none.1 hf _ (List.getElem_mem hj)
    exact absurd e2 this
  | some p =>
    have hp' := List.find?_some hf
    obtain ⟨i, hi, ei⟩ := List.mem_iff_getElem.1 (List.mem_of_find?_eq_some hf)
    have hpw := List.pairwise_iff_getElem.1 (bookOk_iff.1 h).pp
    have n1 : (b.2.2.2.1[i]).1.1 = n := by rw [ei]; simpa using hp'
    have n2 : (b.2.2.2.1[j]).1.1 = n := by simpa using e2
    have : i = j := by
      rcases Nat.lt_trichotomy i j with c | c | c
      · have := (hpw i j (by simpa using hi) (by simpa using hj) c).1
        simp only [List.getElem_map] at this; omega
      · exact c
      · have := (hpw j i (by simpa using hj) (by simpa using hi) c).1
        simp only [List.getElem_map] at this; omega
    subst this
    rw [e, ei]; rfl
end Go.MC
namespace Go.MC
open Go.MC.F
theorem wTextsA {N : Nat} (hN : lim < N) {a b : List Txt} (ha : a.length ≤ 1048576) : f_68 N a b = some (alike a b) := by
  have hlim := lim_eq
  unfold f_68 f_68b alike
  rw [lne]
  cases h : a.length == b.length with
  | false => rfl
  | true =>
    have h' : a.length = b.length := by simpa using h
    refine (lp_allI a _ (fun i x => x == b.getD i []) (some false) (some true) (fun g i hi => ?_) (fun g => ?_) N (by omega)).trans ?_
    · unfold f_68_0r
      simp only [dlt hi, dlt (show i < b.length by omega), dge, gAt hi, cond_true, wrS (show i ≤ 1000000000000000000 by omega)]
      simp only [gAt']
      cases a[i] == b.getD i [] <;> rfl
    · unfold f_68_0r
      rw [dnlt]; rfl
    · cases allI (fun i x => x == b.getD i []) 0 a <;> rfl
theorem stop_md {b : Book} (hb : mdB b) {n : Int} : mdB (stopB b n).1 := by
  cases h : bookOk b with
  | true => exact ok_md (stop_ok h)
  | false =>
    have : stopB b n = (([], [], [], [], 0), 1) := by
      unfold stopB
      rw [h]; rfl
    rw [this]; exact ok_md none_ok
theorem drawOver {N : Nat} (hN : lim < N) {code : List Int} (h : ∀ x ∈ code, 0 ≤ x ∧ x ≤ 255) : Gives (f_22 N code) fun q => mdB q.1 := by
  have last : ∀ (b : Book) (n : Int) (r : Rdr), mdB b → rdG 100000 r → Gives (ob (f_63 N r b n) (Int.ofNat 0, [], Int.ofNat 0) fun r_6 => ob (f_38 N r_6.2 3) (Int.ofNat 0, [], Int.ofNat 0) fun r_7 => some (b, n, r_6.1, decide (r_7.1 > 0))) fun q => mdB q.1 := fun b n r hb hr =>
    (l5Moved hN hb hr (by omega) n).ob fun m hm => (pickG hm.1 (by omega) (by omega)).ob fun p hp => .some hb
  have body : ∀ r, rdG 0 r → Gives (ob (f_92 N r) (([], [], [], [], Int.ofNat 0), [], Int.ofNat 0) fun r => ob (f_96 N r.2 r.1) (Int.ofNat 0, [], Int.ofNat 0) fun r_1 => ob (f_38 N r_1.2 4) (Int.ofNat 0, [], Int.ofNat 0) fun r_2 =>
      bif decide (r_2.1 > 0) then ob (f_36 N r.1 r_1.1) (([], [], [], [], Int.ofNat 0), Int.ofNat 0) fun r_3 =>
        bif r_3.2 == 0 then ob (f_63 N r_2.2 r_3.1 r_1.1) (Int.ofNat 0, [], Int.ofNat 0) fun r_4 => ob (f_38 N r_4.2 3) (Int.ofNat 0, [], Int.ofNat 0) fun r_5 => some (r_3.1, r_1.1, r_4.1, decide (r_5.1 > 0))
        else ob (f_63 N r_2.2 r.1 r_1.1) (Int.ofNat 0, [], Int.ofNat 0) fun r_6 => ob (f_38 N r_6.2 3) (Int.ofNat 0, [], Int.ofNat 0) fun r_7 => some (r.1, r_1.1, r_6.1, decide (r_7.1 > 0))
      else ob (f_63 N r_2.2 r.1 r_1.1) (Int.ofNat 0, [], Int.ofNat 0) fun r_8 => ob (f_38 N r_8.2 3) (Int.ofNat 0, [], Int.ofNat 0) fun r_9 => some (r.1, r_1.1, r_8.1, decide (r_9.1 > 0))) fun q => mdB q.1 := fun r hr => by
    refine (l5Any hN hr (by omega)).ob fun b hb => (l5Of hb.1 (by omega) b.1).ob fun n hn => (pickG hn (by omega) (by omega)).ob fun p hp => gDec (fun _ => ?_) fun _ => last _ _ _ hb.2 (hp.2.2.mono (by omega))
    rw [ob_eq (specStop hN hb.2.sm _)]
    exact gBy (fun _ => last _ _ _ (stop_md hb.2) (hp.2.2.mono (by omega))) fun _ => last _ _ _ hb.2 (hp.2.2.mono (by omega))
  unfold f_22
  exact gDec (fun hl => gIf (by omega) (body _ (open_rd h))) fun hl => body _ (open_all h hl)
theorem over_cases (b : Book) (n moved : Int) (done : Bool) : (bookOk b = true ∧ 0 ≤ partAt b n ∧ movedOk (partX b n).1 moved = true ∧ overB b n moved done = (overBk b n moved done, 0)) ∨ (overB b n moved done = (([], [], [], [], 0), 1)) ∨ ((overB b n moved done).1 = b ∧ (overB b n moved done).2 ≠ 0 ∧ (overB b n moved done).2 ≠ 1) := by
  unfold overB
  cases hb : bookOk b with
  | false => exact .inr (.inl rfl)
  | true =>
    rw [cond_true]
    by_cases hp : partAt b n < 0
    · rw [decide_eq_true hp, cond_true]
      exact .inr (.inr ⟨rfl, (by decide : (3 : Int) ≠ 0), (by decide : (3 : Int) ≠ 1)⟩)
    · rw [decide_eq_false hp, cond_false]
      cases hm : movedOk (partX b n).1 moved with
      | false => exact .inr (.inr ⟨rfl, (by decide : (2 : Int) ≠ 0), (by decide : (2 : Int) ≠ 1)⟩)
      | true =>
        cases (partX b n).2 with
        | false => exact .inr (.inr ⟨rfl, (by decide : (12 : Int) ≠ 0), (by decide : (12 : Int) ≠ 1)⟩)
        | true => exact .inl ⟨rfl, by omega, rfl, rfl⟩
theorem over_gone {b : Book} {n moved : Int} {done : Bool} (hb : bookOk b = true) (hp : 0 ≤ partAt b n) : partAt (overBk b n moved done) n < 0 := by
  have o := bookOk_iff.1 hb
  have hlt := partAt_lt hp
  have hk : (partAt b n).toNat < b.2.2.2.1.length := by omega
  have hnum : (b.2.2.2.1[(partAt b n).toNat]'hk).1.1 = n := by
    have := part_num hp
    unfold partX at this
    rwa [getD_at hk] at this
  refine Int.not_le.1 fun h0 => ?_
  have hm := partX_mem h0
  have e := part_num h0
  obtain ⟨i, hi, hne, eq⟩ := List.mem_eraseIdx_iff_getElem.1 (show partX (overBk b n moved done) n ∈ b.2.2.2.1.eraseIdx (partAt b n).toNat from hm)
  have hpw := List.pairwise_iff_getElem.1 o.pp
  have e3 : (b.2.2.2.1[i]).1.1 = n := by rw [eq]; exact e
  rcases Nat.lt_or_gt_of_ne hne with c | c
  · have := (hpw i _ (by simpa using hi) (by simpa using hk) c).1
    simp only [List.getElem_map] at this
    omega
  · have := (hpw _ i (by simpa using hk) (by simpa using hi) c).1
    simp only [List.getElem_map] at this
    omega
theorem lawFnOver {N : Nat} (hN : lim < N) {code : List Int} (hc : Fit (.slice (.int .u8)) code) : f_67 N code = some true := by
  have hlim := lim_eq
  refine gTrue ?_
  unfold f_67 f_67b
  refine gDec (fun _ => .some rfl) fun _ => (drawOver hN (bytes_of hc)).ob fun r hr => ?_
  obtain ⟨b, n, moved, done⟩ := r
  have hb : mdB b := hr
  have hs := hb.sm
  have hx := overB_sm hs n moved done
  simp only [ob_eq (implOver hN hs n moved done), ob_eq (specOver hN hs n moved done), bne_self_eq_false, cond_false, ob_eq (wBook hN hx), Bool.not_true]
  rcases over_cases b n moved done with ⟨hbo, hp, hm, e⟩ | e | ⟨e1, e2, e3⟩
  · rw [e]
    refine gBy (fun h => by cases h) fun _ => ?_
    rw [ob_eq (wPart hN hs n), wantOf_at hbo hp]
    have o := bookOk_iff.1 hbo
    have hw := o.po _ (List.mem_map.2 ⟨_, partX_mem hp, rfl⟩)
    have hws := want_sm hw.2.1
    have hua := uses_asc hw.2.1
    have ex : (overBk b n moved done).2.1 = _ := over_spots o hw moved done
    have xok := overBk_ok (done := done) hbo hp hm
    have hlen : (overBk b n moved done).2.1.length = b.2.1.length := by rw [ex, List.length_map]
    have hl8 := o.sl
    have hmu : 0 ≤ moved ∧ ∀ u ∈ (partX b n).1.2.2.2.1, u.2.1 ≠ 3 → moved ≤ u.2.2 := by
      unfold movedOk at hm
      simp only [Bool.and_eq_true, Bool.not_eq_true', decide_eq_false_iff_not] at hm
      refine ⟨by omega, fun u hu h3 => ?_⟩
      have := List.all_eq_true.1 hm.2 u hu
      unfold movedU at this
      rw [show (u.2.1 != 3) = true by simpa using h3] at this
      simp only [Bool.true_and, Bool.not_eq_true', decide_eq_false_iff_not] at this
      omega
    refine lp_post b.2.1.length (fun (g : Int → Option Bool) i (_ : Unit) => g i) (z := fun _ => none) (rd := fun next => f_67_0r N (b, n, moved, done) (overBk b n moved done, 0) (partX b n).1 next) (fun _ _ => True) (fun g i st hi _ on => ?_) (fun g st _ => ?_) (N := N) (st := ()) (by omega) trivial
    · have hmem := List.getElem_mem hi
      have on' := on () trivial
      have hix : i < (overBk b n moved done).2.1.length := by omega
      have et : (overBk b n moved done).2.1[i] = turn (overU (partX b n).1 moved done) (partX b n).1.2.2.2.1 b.2.1[i] := by simp only [ex, List.getElem_map]
      obtain ⟨_, c2, c3, c4, _⟩ := spotOk_iff.1 (o.so _ hmem)
      have hml : b.2.1[i].2.2.2.2.length ≤ 1048576 := (hs.2.1.2 _ hmem).2.1
      -- what was not used is as it was; what may be left is less only where it was cleaned
      have facts : (usesB (partX b n).1 b.2.1[i].1 = false → (overBk b n moved done).2.1[i] = b.2.1[i]) ∧ ((overBk b n moved done).2.1[i].2.2.2.2 = b.2.1[i].2.2.2.2 ∨ (done = true ∧ (partX b n).1.2.1 = 2 ∧ (overBk b n moved done).2.1[i].2.2.2.2 = [])) ∧ (overBk b n moved done).2.1[i].2.2.2.1 - (overBk b n moved done).2.1[i].2.2.1 ≤ b.2.1[i].2.2.2.1 - b.2.1[i].2.2.1 ∧ 0 ≤ (overBk b n moved done).2.1[i].2.2.1 ∧ (overBk b n moved done).2.1[i].2.2.1 ≤ (overBk b n moved done).2.1[i].2.2.2.1 ∧ (overBk b n moved done).2.1[i].2.2.2.1 ≤ 1000 := by
        obtain ⟨_, d2, d3, _, _⟩ := spotOk_iff.1 ((bookOk_iff.1 xok).so _ (List.getElem_mem hix))
        refine ⟨fun hno => ?_, ?_, ?_, by omega, by omega, by omega⟩
        · rw [et]
          exact turn_not fun u hu eu => by
            have := List.any_eq_false.1 hno u hu
            exact this (by simpa using eu)
        · rw [et]
          by_cases hcu : ∃ u ∈ (partX b n).1.2.2.2.1, u.1 = b.2.1[i].1
          · obtain ⟨u, hu, eu⟩ := hcu
            rw [turn_in (overU_name _ _ _) hua hu eu]
            unfold overU
            by_cases hk : (partX b n).1.2.1 = 2
            · rw [hk]
              cases done with
              | true => exact .inr ⟨rfl, rfl, rfl⟩
              | false => exact .inl rfl
            · rw [beq_eq_false_iff_ne.2 hk]
              exact .inl rfl
          · rw [turn_not fun u hu eu => hcu ⟨u, hu, eu⟩]; exact .inl rfl
        · rw [et]
          by_cases hcu : ∃ u ∈ (partX b n).1.2.2.2.1, u.1 = b.2.1[i].1
          · obtain ⟨u, hu, eu⟩ := hcu
            rw [turn_in (overU_name _ _ _) hua hu eu]
            unfold overU
            rcases use_facts hw.2.1 hu with ⟨e1, _⟩ | ⟨e1, _, e3, e4⟩
            · rw [e1]; exact Int.le_refl _
            · have hmv := hmu.2 u hu (by omega)
              have hm0 := hmu.1
              rcases e1 with e1 | e1
              · rw [e1]
                simp only [show ((1 : Int) == 1) = true from rfl, cond_true]
                rw [wr (by omega) (by omega), wr (by omega) (by omega)]; omega
              · rw [e1]
                simp only [show ((2 : Int) == 1) = false from rfl, show ((2 : Int) == 2) = true from rfl, cond_true, cond_false]
                rw [wr (by omega) (by omega), wr (by omega) (by omega)]; omega
          · rw [turn_not fun u hu eu => hcu ⟨u, hu, eu⟩]; exact Int.le_refl _
      obtain ⟨f1, f2, f3, f4, f5, f6⟩ := facts
      have al : alike b.2.1[i].2.2.2.2 (overBk b n moved done).2.1[i].2.2.2.2 = true ∨ (done = true ∧ (partX b n).1.2.1 = 2 ∧ (overBk b n moved done).2.1[i].2.2.2.2 = []) := f2.imp_left fun e => by rw [e]; exact alike_self _
      unfold f_67_0r
      simp only [gAt hi, gAt hix, wrS (show i ≤ 1000000000000000000 by omega), ob_eq (wUses hN hws _), ob_eq (wTextsA hN hml)]
      generalize (overBk b n moved done).2.1[i] = t at f1 f3 f4 f5 f6 al
      simp only [wr (n := t.2.2.2.1 - t.2.2.1) (by omega) (by omega), wr (n := b.2.1[i].2.2.2.1 - b.2.1[i].2.2.1) (by omega) (by omega)]
      have fin : Gives (bif decide (t.2.2.2.1 - t.2.2.1 > b.2.1[i].2.2.2.1 - b.2.1[i].2.2.1) then some false else g ((i + 1 : Nat) : Int)) (· = true) := gNot (by omega) on'
      refine gIf (by omega) (gIf (by omega) (gIf (by omega) (gIf (by omega) (gIf (by omega) (gBy (fun hu => ?_) fun hu => ?_)))))
      · have es : t = b.2.1[i] := f1 (by simpa using hu)
        subst es
        simp only [bne_self_eq_false, cond_false, alike_self, Bool.not_true]
        exact fin
      · refine gBy (fun ha => ?_) fun _ => fin
        rcases al with h | ⟨h1, h2, h3⟩
        · rw [h] at ha; cases ha
        · rw [h1, h2, h3]
          refine gBy (fun h => by cases h) fun _ => gBy (fun h => by cases h) fun _ => gNot (by simp) fin
    · have hno := over_gone (moved := moved) (done := done) hbo hp
      have hlp : (overBk b n moved done).2.2.2.1.length + 1 = b.2.2.2.1.length := by
        have hlt := partAt_lt hp
        show (b.2.2.2.1.eraseIdx (partAt b n).toNat).length + 1 = _
        rw [List.length_eraseIdx, if_pos (by omega)]; omega
      have e3 : overB (overBk b n moved done) n moved done = (overBk b n moved done, 3) := by
        have := xok
        generalize overBk b n moved done = x at this hno ⊢
        unfold overB
        rw [this, decide_eq_true hno]; rfl
      have hpl := o.pl
      unfold f_67_0r
      refine gNot (by show ¬ ((b.2.1.length : Nat) : Int) < ((b.2.1.length : Nat) : Int); omega) ?_
      simp only [ob_eq (implOver hN (ok_sm xok) n moved done), e3, ob_eq (implBookOk hN (ok_sm xok)), xok]
      rw [wr (by omega) (by omega), show (((overBk b n moved done).2.2.2.1.length : Int) == (b.2.2.2.1.length : Int) - 1) = true from beq_iff_eq.2 (by omega)]
      exact .some rfl
  · rw [e]
    refine gBy (fun _ => gBy (fun _ => ?_) fun h => by cases h) fun h => by cases h
    rw [ob_eq (wBook hN sm_none)]
    exact .some rfl
  · refine gBy (fun _ => gBy (fun h => absurd (beq_iff_eq.1 h) e3) fun _ => ?_) fun h => absurd (by simpa using h) e2
    rw [e1, ob_eq (wBook hN hs)]
    exact .some rfl
end Go.MC
namespace Go.Proofs.Ytaihjhaabnfenaa.fnOver
open Go.ChangeShapes Go.WideShapes Go.ChangeAt Go.RowKit Go.MC
open Go.ChangeMaps (open_string shut_string)
theorem own : ownKnob Try.prog.godebug = none := by kernel_rfl
theorem laidOut : laidOutB Try.prog = true := by kernel_rfl
set_option maxRecDepth 100000 in
theorem lifted (os : Os) (started : os.Started) (H : Type) (enc : TypeId × Value → H) :
    ReturnsInHanded {} Try.checked os 8 .any (Rows.fnOverSpec.pre6 enc Try.prog Try.f8 Rows.fnOverRow.domain false) (Rows.fnOverSpec.post enc Try.prog Try.f8 false true false false) := by
  refine returnsInHanded_of_change_sized (C := Try.checked) own started (by kernel_rfl) Try.func8
    (ChangeSpec.witness6 (enc := enc) (C := Try.checked) false ⟨#[], #[.slice none 0 0], []⟩ 8 (by kernel_rfl) (by kernel_rfl) (by kernel_rfl) (by kernel_rfl)) ?_
  intro W base args ds gs before hval0 hW hcnd hsz0 _
  have hsz : (DataW.weightsEach Try.prog (Try.f8.params.toList ++ Rows.fnOverSpec.plain.varTypes Try.prog) (ds ++ gs)).all (· ≤ reachBytes) = true := hsz0
  have hval : ∀ (j : Nat) t v, Try.f8.params[j]? = some t → args[j]? = some v → Value.okWide Try.prog W .any base t v := hval0
  have hW' := hW
  obtain ⟨p, q, hA0, hV, rfl, hfz, hnd⟩ := hW
  have hA : DataW.TrodAll enc Try.prog W 0 (fun _ => true) true Try.f8.params.toList args.toList ds p := hA0
  rw [Try.params8] at hA hval hsz
  obtain ⟨v0, vs0, d0, ds0, p0, q0, hargs, rfl, rfl, h0, r0⟩ := trodAll_cons hA
  obtain ⟨rfl, rfl, rfl⟩ := trodAll_nil r0
  obtain rfl : args = #[v0] := by cases args; simp_all
  obtain ⟨rfl, rfl⟩ := trodVars_none hV
  have lt0 : ∀ x ∈ p0, x.block < W.heap.size := by obtain ⟨m, hm⟩ := h0; exact DataW.trod_lt m _ _ _ hm
  obtain ⟨x0, cs0, hx0, hs0⟩ := arg_rd (n := 12) (t := (.slice tByte)) (by kernel_rfl) (hval 0 57 v0 rfl rfl) h0 hsz (j := 0) rfl rfl
  clear hA0 hval0 hsz0 hsz
  have law : F.f_67 (lim + 1) x0 = some true := lawFnOver (N := lim + 1) (Nat.lt_succ_self _) (id hx0.fit)
  have hout := summ_out1 (f := F.f_67 (lim + 1)) law (rs := [.d .bool false]) (ts := [.bool]) (fz := false) (a := false) (t := (.slice tByte)) (x := x0) (r := true)
  refine (law_calls (con_f_67 (lim + 1)) (args := [v0]) (ds := [⟨(.slice tByte), x0⟩]) ⟨v0, [], [], rfl, rfl, ⟨rfl, rfl⟩⟩
    ⟨v0, [], x0, [], cs0, rfl, rfl, hx0, hs0, ⟨rfl, rfl, rfl, rfl⟩⟩ hout.1 hout.2 rfl).mono fun e W' ⟨he, bel⟩ => ?_
  subst he
  exact ⟨_, rfl, _, _, _, [], _, [], hW', trodAll_mk1 (shut_bool Try.underlying4 _), (trodAll_cons_mk (Below.trod laidOut (by kernel_rfl) (of_decide_eq_true (by kernel_rfl)) h0 bel lt0) trodAll_mk0), rfl, bel.frame _, fun h => by cases h⟩
theorem over : Rows.fnOverRow.holds Try.pinned (OpenSpec.ofChange Rows.fnOverSpec) :=
  OpenClaim.holds_of_wide 8 Try.f8 rfl rfl rfl rfl rfl rfl rfl ⟨rfl, rfl, rfl, rfl, rfl⟩ rfl rfl rfl rfl rfl (by kernel_rfl) Try.func8 (by kernel_rfl)
    (of_decide_eq_true (by kernel_rfl)) (by unfold Func.isWrapper; first | (rw [if_pos (by decide +kernel)]; kernel_rfl) | (rw [if_neg (by decide +kernel)]; exact ⟨rfl, rfl⟩))
    (fun os started H enc _ => lifted os started H enc)
theorem proved : Rows.FnOverSaid := over
#print axioms proved
end Go.Proofs.Ytaihjhaabnfenaa.fnOver
namespace Go.Proofs.Ytaihjhaabnfenaa
theorem fnOver_holds : Rows.FnOverSaid := fnOver.proved
end Go.Proofs.Ytaihjhaabnfenaa

/- The law FnExactClaimSession returns true on every input: what the program tells is what the document tells, by the contracts of all functions that it reaches and a proof in plain Lean. The row lists package variables (tables of the library); the card ties them to the text of the program; there is no other condition. -/
import Derived.Test.YtaihjhaabnfenaaGreatDoormFnExactClaimSessionCardSaid4
import Derived.Test.YtaihjhaabnfenaaGreatDoormFnExactClaimSessionCardSaid2
import Derived.Test.YtaihjhaabnfenaaGreatDoorRows
import Derived.Test.YtaihjhaabnfenaaGreatDoorTie
import Derived.Test.YtaihjhaabnfenaaGreatDoorCards
import Derived.WalkKit
import Derived.ProofKit
import Derived.OpenShut
import Derived.ShutString
import Derived.ChangeOld
import Derived.Below
import Derived.SizedLaws
import Derived.Carry
import Derived.LaidMore
import Derived.Lay
import Derived.SevenTiedAt
import Derived.Stop.Joined
import Derived.Stop.LaidErr
import Derived.Shelf.Vars
import Derived.Lib.LaidTab
import Derived.Handed
set_option linter.unusedVariables false
set_option linter.unusedSimpArgs false
namespace Go.MC
open Go.MC.F
theorem XW : ∀ {a b : Txt}, Op.bytesLess a b = true ↔ a < b
 | [], [] => by simp [Op.bytesLess]
 | [], _ :: _ => by simp [Op.bytesLess]
 | _ :: _, [] => by simp [Op.bytesLess]
 | x :: a, y :: b => by
  simp only [Op.bytesLess, Bool.or_eq_true, Bool.and_eq_true, decide_eq_true_eq, beq_iff_eq, List.cons_lt_cons_iff]
  rw [XW (a := a) (b := b)]
theorem FZ : ∀ {a b : Txt}, Op.bytesLess a b = false → a ≠ b → Op.bytesLess b a = true
 | [], [], _, h => absurd rfl h
 | [], _ :: _, h, _ => by cases h
 | _ :: _, [], _, _ => rfl
 | x :: a, y :: b, h, hn => by
  simp only [Op.bytesLess, Bool.or_eq_false_iff, Bool.and_eq_false_iff, decide_eq_false_iff_not, beq_eq_false_iff_ne, Bool.or_eq_true, Bool.and_eq_true, decide_eq_true_eq, beq_iff_eq] at h ⊢
  by_cases hxy : x = y
  ·subst hxy
   refine .inr ⟨rfl, FZ ?_ fun e => hn (by rw [e])⟩
   rcases h.2 with h | h
   ·exact absurd rfl h
   ·exact h
  ·refine .inl ?_
   rcases Nat.lt_or_gt_of_ne (fun e => hxy (UInt8.toNat_inj.1 e)) with h1 | h1
   ·exact absurd (UInt8.lt_iff_toNat_lt.2 h1) h.1
   ·exact UInt8.lt_iff_toNat_lt.2 h1
def Asc (l : List Txt) : Prop := l.Pairwise fun a b => Op.bytesLess a b = true
theorem XL {l : List Txt} {n : Int} (h : dO l n = true) : Asc l := by
 unfold dO at h
 simp only [Bool.and_eq_true] at h
 have h2 := dR.1 h.2
 have h3 : ∀ j, 0 < j → (hj : j < l.length) → Op.bytesLess (l[j - 1]'(by omega)) l[j] = true := by
  intro j h0 hj
  have := h2 j l[j] (by simp [hj])
  simp only [Nat.zero_add, Bool.and_eq_true, Jw, Bool.or_eq_true, beq_iff_eq] at this
  rcases this.2 with h | h
  ·omega
  ·rwa [List.getD_eq_getElem?_getD, List.getElem?_eq_getElem (by omega)] at h
 have h4 : ∀ (k i : Nat) (hj : i + k + 1 < l.length), Op.bytesLess (l[i]'(by omega)) l[i + k + 1] = true := by
  intro k
  induction k with
  | zero => intro i hj; exact h3 (i + 1) (by omega) hj
  | succ k ih =>
   intro i hj
   exact gY (ih i (by omega)) (h3 (i + (k + 1) + 1) (by omega) hj)
 refine List.pairwise_iff_getElem.2 fun i j hi hj hij => ?_
 have := h4 (j - i - 1) i (by omega)
 simpa only [show i + (j - i - 1) + 1 = j by omega] using this
theorem PN : ∀ {a b : List Txt}, Asc a → Asc b → (∀ x, x ∈ a ↔ x ∈ b) → a = b
 | [], [], _, _, _ => rfl
 | [], y :: b, _, _, h => absurd ((h y).2 (by simp)) (by simp)
 | x :: a, [], _, _, h => absurd ((h x).1 (by simp)) (by simp)
 | x :: a, y :: b, ha, hb, h => by
  obtain ⟨ha1, ha2⟩ := List.pairwise_cons.1 ha
  obtain ⟨hb1, hb2⟩ := List.pairwise_cons.1 hb
  have e : x = y := by
   rcases List.mem_cons.1 ((h x).1 (by simp)) with h1 | h1
   ·exact h1
   ·rcases List.mem_cons.1 ((h y).2 (by simp)) with h2 | h2
    ·exact h2.symm
    ·have := gY (hb1 x h1) (ha1 y h2)
     rw [ed] at this
     cases this
  subst e
  have : a = b := PN ha2 hb2 fun z => by
   constructor
   ·intro hz
    rcases List.mem_cons.1 ((h z).1 (by simp [hz])) with h1 | h1
    ·subst h1
     have := ha1 z hz
     rw [ed] at this
     cases this
    ·exact h1
   ·intro hz
    rcases List.mem_cons.1 ((h z).2 (by simp [hz])) with h1 | h1
    ·subst h1
     have := hb1 z hz
     rw [ed] at this
     cases this
    ·exact h1
  rw [this]
theorem ajs (xs : List Txt) : Asc (gZ (srt xs)) := by
 have hs := IX xs
 have hn := (G9 xs).1
 have hle : (gZ (srt xs)).Pairwise fun a b => a ≤ b := by
  unfold gZ Lib.compact Lib.compactUpTo
  refine List.pairwise_map.2 ?_
  have h1 : ((List.range (srt xs).length).filter (Lib.keeps (srt xs).toArray)).Pairwise (· < ·) := List.Pairwise.filter _ List.pairwise_lt_range
  refine List.Pairwise.imp_of_mem ?_ h1
  intro i j hi hj hij
  have hj' : j < (srt xs).length := by simpa using (List.mem_filter.1 hj).1
  have hi' : i < (srt xs).length := by omega
  rw [getElem!_pos _ i (by simpa using hi'), getElem!_pos _ j (by simpa using hj')]
  simp only [List.getElem_toArray]
  exact List.pairwise_iff_getElem.1 hs i j hi' hj' hij
 have h2 := List.Pairwise.and hle hn
 refine h2.imp fun {a b} h => ?_
 cases hb : Op.bytesLess a b with
 | true => rfl
 | false =>
  have := XW.1 (FZ hb h.2)
  exact absurd this (by simpa using h.1)
def m_ : List Txt → Txt → List Txt
 | [], x => [x]
 | y :: ys, x => bif Op.bytesLess y x then y :: m_ ys x else bif y == x then y :: ys else x :: y :: ys
theorem G5 : ∀ {l : List Txt} {x y : Txt}, y ∈ m_ l x ↔ y = x ∨ y ∈ l
 | [], x, y => by simp [m_]
 | z :: l, x, y => by
  simp only [m_]
  cases h : Op.bytesLess z x with
  | true =>
   simp only [cond_true, List.mem_cons, G5 (l := l)]
   constructor
   ·rintro (h | h | h)
    ·exact .inr (.inl h)
    ·exact .inl h
    ·exact .inr (.inr h)
   ·rintro (h | h | h)
    ·exact .inr (.inl h)
    ·exact .inl h
    ·exact .inr (.inr h)
  | false =>
   cases h2 : z == x with
   | true =>
    have := beq_iff_eq.1 h2
    subst this
    simp
   | false => simp
theorem tV : ∀ (l : List Txt) (x : Txt), (m_ l x).length ≤ l.length + 1
 | [], x => by simp [m_]
 | z :: l, x => by
  simp only [m_]
  have := tV l x
  cases Op.bytesLess z x with
  | true => simp; omega
  | false => cases z == x <;> simp
theorem QO : ∀ {l : List Txt} (x : Txt), Asc l → Asc (m_ l x)
 | [], x, _ => by simp [m_, Asc]
 | z :: l, x, h => by
  obtain ⟨h1, h2⟩ := List.pairwise_cons.1 h
  simp only [m_]
  cases hz : Op.bytesLess z x with
  | true =>
   refine List.pairwise_cons.2 ⟨fun y hy => ?_, QO x h2⟩
   rcases G5.1 hy with rfl | hy
   ·exact hz
   ·exact h1 y hy
  | false =>
   cases h3 : z == x with
   | true => exact h
   | false =>
    have hxz := FZ hz (beq_eq_false_iff_ne.1 h3)
    refine List.pairwise_cons.2 ⟨fun y hy => ?_, h⟩
    rcases List.mem_cons.1 hy with rfl | hy
    ·exact hxz
    ·exact gY hxz (h1 y hy)
def nT (l : List Txt) (xs : List Txt) : List Txt := xs.foldl m_ l
theorem jW : ∀ {xs l : List Txt} {y : Txt}, y ∈ nT l xs ↔ y ∈ l ∨ y ∈ xs
 | [], l, y => by simp [nT]
 | x :: xs, l, y => by
  show y ∈ nT (m_ l x) xs ↔ _
  rw [jW, G5, List.mem_cons]
  constructor
  ·rintro ((h | h) | h)
   ·exact .inr (.inl h)
   ·exact .inl h
   ·exact .inr (.inr h)
  ·rintro (h | h | h)
   ·exact .inl (.inr h)
   ·exact .inl (.inl h)
   ·exact .inr h
theorem tu : ∀ (xs : List Txt) {l : List Txt}, Asc l → Asc (nT l xs)
 | [], l, h => h
 | x :: xs, l, h => tu xs (QO x h)
theorem Dn : ∀ (xs l : List Txt), (nT l xs).length ≤ l.length + xs.length
 | [], l => by simp [nT]
 | x :: xs, l => by
  have h1 := Dn xs (m_ l x)
  have h2 := tV l x
  show (nT (m_ l x) xs).length ≤ _
  simp; omega
theorem MQ {l xs : List Txt} (h : Asc l) : gZ (srt (l ++ xs)) = nT l xs :=
 PN (ajs _) (tu xs h) fun x => by rw [(G9 _).2, jW, List.mem_append]
theorem ahk {N : Nat} (hN : lim < N) {l : List Txt} (hl : l.length ≤ 1048576) (x : Txt) : akH N l x = some (m_ l x) := by
 have hlim := aQ
 unfold akH af_
 have := eQ l (fun (g : Int → Option (List Txt)) i (_ : Unit) => g (i : Int)) (fun _ => none) (y5 N l x) (fun i _ y => bif Op.bytesLess y x then .inl () else .inr (some (bif y == x then l else l.take i ++ [x] ++ l.drop i))) (fun _ => some (l ++ [x])) (fun _ _ => True)
  (fun g i st h _ => ⟨by
   unfold y5
   have e1 : decide ((i : Int) ≤ (l.length : Int)) = true := decide_eq_true (by omega)
   have e2 : decide ((0 + (List.drop (Int.toNat 0) (List.take (Int.toNat (i : Int)) l)).length) * 16 ≤ lim) = true := decide_eq_true (by simp; omega)
   have e3 : decide ((([] ++ List.drop (Int.toNat 0) (List.take (Int.toNat (i : Int)) l)).length + [x].length) * 16 ≤ lim) = true := decide_eq_true (by simp; omega)
   have e4 : decide ((l.length : Int) ≤ (l.length : Int)) = true := decide_eq_true (by omega)
   have e5 : decide ((([] ++ List.drop (Int.toNat 0) (List.take (Int.toNat (i : Int)) l) ++ [x]).length + (List.drop (Int.toNat (i : Int)) (List.take (l.length : Int).toNat l)).length) * 16 ≤ lim) = true := decide_eq_true (by simp; omega)
   simp only [dlt h, dge, gAt h, cond_true, wrS (show i ≤ 1000000000000000000 by omega), e1, e2, e3, e4, e5]
   have e6 : [] ++ List.drop (Int.toNat 0) (List.take (Int.toNat (i : Int)) l) ++ [x] ++ List.drop (Int.toNat (i : Int)) (List.take (l.length : Int).toNat l) = l.take i ++ [x] ++ l.drop i := by simp
   rw [e6]
   cases Op.bytesLess l[i] x <;> cases l[i] == x <;> rfl, fun _ _ => trivial⟩) (fun g _ _ => by
   unfold y5
   have e1 : decide ((l.length : Int) ≤ (l.length : Int)) = true := decide_eq_true (by omega)
   have e2 : decide ((0 + (List.drop (Int.toNat 0) (List.take (Int.toNat (l.length : Int)) l)).length) * 16 ≤ lim) = true := decide_eq_true (by simp; omega)
   have e3 : decide ((([] ++ List.drop (Int.toNat 0) (List.take (Int.toNat (l.length : Int)) l)).length + [x].length) * 16 ≤ lim) = true := decide_eq_true (by simp; omega)
   have e5 : decide ((([] ++ List.drop (Int.toNat 0) (List.take (Int.toNat (l.length : Int)) l) ++ [x]).length + (List.drop (Int.toNat (l.length : Int)) (List.take (l.length : Int).toNat l)).length) * 16 ≤ lim) = true := decide_eq_true (by simp; omega)
   simp only [di, dge, cond_true, cond_false, e1, e2, e3, e5]
   congr 1
   simp) N (by omega) () trivial
 refine this.trans ?_
 have : ∀ (suf pre : List Txt), l = pre ++ suf → outW (fun _ => some (l ++ [x])) (dL (fun i (_ : Unit) y => (bif Op.bytesLess y x then Sum.inl () else Sum.inr (some (bif y == x then l else l.take i ++ [x] ++ l.drop i)) : Unit ⊕ Option (List Txt))) pre.length suf ()) = some (pre ++ m_ suf x) := by
  intro suf
  induction suf with
  | nil => intro pre h; simp [dL, outW, m_, h]
  | cons y ys ih =>
   intro pre h
   simp only [dL, m_]
   cases hy : Op.bytesLess y x with
   | true =>
    have := ih (pre ++ [y]) (by simp [h])
    simp only [cond_true]
    rw [show pre.length + 1 = (pre ++ [y]).length by simp]
    rw [this]
    simp
   | false =>
    cases hyx : y == x with
    | true => simp [outW, h]
    | false => simp [outW, h]
 have := this l [] rfl
 simpa using this
end Go.MC
namespace Go.MC
open Go.MC.F
def partAt (b : Book) (n : Int) : Int := fP (fun p : Part => p.1.1 == n) 0 b.2.2.2.1
theorem Og {N : Nat} (hN : lim < N) {b : Book} (hb : smB b) (n : Int) : QM N b n = some (partAt b n) := by
 have hlim := aQ
 have hlp := hb.2.2.2.1
 unfold QM afW partAt
 refine T_ b.2.2.2.1 _ (fun p : Part => p.1.1 == n) (fun g i hi => ?_) (fun g => ?_) N (by omega)
 ·unfold ED
  simp only [dlt hi, dge, gAt hi, cond_true, wrS (show i ≤ 1000000000000000000 by omega)]
 ·unfold ED
  rw [di]; rfl
theorem yT {N : Nat} (hN : lim < N) {b : Book} (hb : smB b) (n : Int) : Px N b n = some (partAt b n) := by
 have hlim := aQ
 have hlp := hb.2.2.2.1
 unfold Px partAt
 have h : f_0 N b.2.2.2.1 n = some (fP (fun p : Part => p.1.1 == n) 0 b.2.2.2.1, n) := by
  unfold f_0 apZ
  refine Ey b.2.2.2.1 _ (fun p : Part => p.1.1 == n) n (fun g i hi => ?_) (fun g => ?_) N (by omega)
  ·unfold PD
   simp only [dlt hi, dge, gAt hi, cond_true, wrS (show i ≤ 1000000000000000000 by omega)]
   rw [ak (show am9 N b.2.2.2.1[i] n = some (b.2.2.2.1[i].1.1 == n, n) from rfl)]
  ·unfold PD
   rw [di]; rfl
 rw [ak h]
theorem kQ {b : Book} {n : Int} (h : 0 ≤ partAt b n) : partAt b n < b.2.2.2.1.length := by
 have := Fp _ _ _ h
 unfold partAt
 omega
end Go.MC
namespace Go.MC
open Go.MC.F
theorem lne (m n : Nat) : ((m : Int) != (n : Int)) = !(m == n) := by
 by_cases h : m = n
 ·subst h; simp
 ·have : ¬ ((m : Int) = (n : Int)) := by omega
  show (!((m : Int) == (n : Int))) = _
  rw [beq_eq_false_iff_ne.2 this, beq_eq_false_iff_ne.2 h]
theorem aj9 (m n : Int) : (m != n) = !(m == n) := rfl
theorem VR {F : Type} (z : F) (rd : F → F) {N : Nat} (h : 0 < N) : lp z rd N = rd (lp z rd (N - 1)) := by
 cases N with
 | zero => omega
 | succ n => rfl
def alike (a b : List Txt) : Bool := (a.length == b.length) && eY (fun i x => x == b.getD i []) 0 a
def eqU (u v : Use) : Bool := u.1 == v.1 && (u.2.1 == v.2.1 && (u.2.2 == v.2.2 && true))
def G8 (a b : List Use) : Bool := (a.length == b.length) && eY (fun i x => eqU x (b.getD i bD)) 0 a
def uf (a b : Want) : Bool := (a.1 == b.1) && ((a.2.1 == b.2.1) && (alike a.2.2.1 b.2.2.1 && (G8 a.2.2.2.1 b.2.2.2.1 && (alike a.2.2.2.2.1 b.2.2.2.2.1 && alike a.2.2.2.2.2 b.2.2.2.2.2))))
theorem PE {N : Nat} (hN : lim < N) {a b : List Txt} (ha : a.length ≤ 1048576) : Ub N a b = some (alike a b) := by
 have hlim := aQ
 unfold Ub aj1 alike
 rw [lne]
 cases h : a.length == b.length with
 | false => rfl
 | true =>
  have h' : a.length = b.length := by simpa using h
  refine (bU a _ (fun i x => x == b.getD i []) (some false) (some true) (fun g i hi => ?_) (fun g => ?_) N (by omega)).trans ?_
  ·unfold Ej
   simp only [dlt hi, dlt (show i < b.length by omega), dge, gAt hi, cond_true, wrS (show i ≤ 1000000000000000000 by omega)]
   simp only [rP]
   cases a[i] == b.getD i [] <;> rfl
  ·unfold Ej
   rw [di]; rfl
  ·cases eY (fun i x => x == b.getD i []) 0 a <;> rfl
theorem sU {N : Nat} (hN : lim < N) {a b : List Txt} (ha : a.length ≤ 1048576) : VF N a b = some (alike a b) := by
 have hlim := aQ
 unfold VF akd alike
 rw [lne]
 cases h : a.length == b.length with
 | false => rfl
 | true =>
  have h' : a.length = b.length := by simpa using h
  refine (bU a _ (fun i x => x == b.getD i []) (some false) (some true) (fun g i hi => ?_) (fun g => ?_) N (by omega)).trans ?_
  ·unfold EP
   simp only [dlt hi, dlt (show i < b.length by omega), dge, gAt hi, cond_true, wrS (show i ≤ 1000000000000000000 by omega)]
   simp only [rP]
   cases a[i] == b.getD i [] <;> rfl
  ·unfold EP
   rw [di]; rfl
  ·cases eY (fun i x => x == b.getD i []) 0 a <;> rfl
theorem PG {N : Nat} (hN : lim < N) {a b : List Use} (ha : a.length ≤ 1048576) : ahd N a b = some (G8 a b) := by
 have hlim := aQ
 unfold ahd aiJ G8
 rw [lne]
 cases h : a.length == b.length with
 | false => rfl
 | true =>
  have h' : a.length = b.length := by simpa using h
  refine (bU a _ (fun i x => eqU x (b.getD i bD)) (some false) (some true) (fun g i hi => ?_) (fun g => ?_) N (by omega)).trans ?_
  ·unfold EH
   simp only [dlt hi, dlt (show i < b.length by omega), dge, gAt hi, cond_true, wrS (show i ≤ 1000000000000000000 by omega)]
   simp only [rP]
   show (bif !(eqU a[i] (b.getD i bD)) then some false else g ((i + 1 : Nat) : Int)) = _
   cases eqU a[i] (b.getD i bD) <;> rfl
  ·unfold EH
   rw [di]; rfl
  ·cases eY (fun i x => eqU x (b.getD i bD)) 0 a <;> rfl
theorem aqd {N : Nat} (hN : lim < N) {a b : Want} (ha : smW a) : abm N a b = some (uf a b) := by
 have hlim := aQ
 have h1 := ha.2.1.1
 unfold abm adw uf G8
 rw [aj9, aj9, lne]
 simp only [ak (PE hN (b := b.2.2.1) ha.1.1), ak (PE hN (b := b.2.2.2.2.1) ha.2.2.1.1), ak (PE hN (b := b.2.2.2.2.2) ha.2.2.2.1)]
 cases h : a.2.2.2.1.length == b.2.2.2.1.length with
 | false =>
  cases a.1 == b.1 <;> cases a.2.1 == b.2.1 <;> cases alike a.2.2.1 b.2.2.1 <;> rfl
 | true =>
  have h' : a.2.2.2.1.length = b.2.2.2.1.length := by simpa using h
  have k : Ox N a b N 0 = some (eY (fun i x => eqU x (b.2.2.2.1.getD i bD)) 0 a.2.2.2.1) := by
   refine (bU a.2.2.2.1 _ (fun i x => eqU x (b.2.2.2.1.getD i bD)) (some false) (some true) (fun g i hi => ?_) (fun g => ?_) N (by omega)).trans ?_
   ·unfold Fz
    simp only [dlt hi, dlt (show i < b.2.2.2.1.length by omega), dge, gAt hi, cond_true, wrS (show i ≤ 1000000000000000000 by omega)]
    simp only [rP]
    show (bif !(eqU a.2.2.2.1[i] (b.2.2.2.1.getD i bD)) then some false else g ((i + 1 : Nat) : Int)) = _
    cases eqU a.2.2.2.1[i] (b.2.2.2.1.getD i bD) <;> rfl
   ·unfold Fz
    rw [di]; rfl
   ·cases eY (fun i x => eqU x (b.2.2.2.1.getD i bD)) 0 a.2.2.2.1 <;> rfl
  rw [k]
  cases a.1 == b.1 <;> cases a.2.1 == b.2.1 <;> cases alike a.2.2.1 b.2.2.1 <;> cases alike a.2.2.2.2.1 b.2.2.2.2.1 <;> cases alike a.2.2.2.2.2 b.2.2.2.2.2 <;> cases eY (fun i x => eqU x (b.2.2.2.1.getD i bD)) 0 a.2.2.2.1 <;> rfl
theorem agt {N : Nat} (hN : lim < N) {a b : Want} (ha : smW a) : NC N a b = some (uf a b) := by
 unfold NC uf
 simp only [ak (sU hN (b := b.2.2.1) ha.1.1), ak (PG hN (b := b.2.2.2.1) ha.2.1.1), ak (sU hN (b := b.2.2.2.2.1) ha.2.2.1.1), ak (sU hN (b := b.2.2.2.2.2) ha.2.2.2.1)]
 cases a.1 == b.1 <;> cases a.2.1 == b.2.1 <;> cases alike a.2.2.1 b.2.2.1 <;> cases G8 a.2.2.2.1 b.2.2.2.1 <;> cases alike a.2.2.2.2.1 b.2.2.2.2.1 <;> rfl
theorem JY {α β : Type} (l : List α) (m : List β) (p : α → β → Bool) : (l.any fun x => m.any fun y => p x y) = m.any fun y => l.any fun x => p x y := by
 rw [Bool.eq_iff_iff]
 simp only [List.any_eq_true]
 constructor
 ·rintro ⟨x, hx, y, hy, h⟩; exact ⟨y, hy, x, hx, h⟩
 ·rintro ⟨y, hy, x, hx, h⟩; exact ⟨x, hx, y, hy, h⟩
theorem oG (a b : Want) : share a b = share b a := by
 unfold share
 rw [JY]
 congr 1
 funext u
 congr 1
 funext v
 exact BEq.comm
theorem zG (l m : List Txt) : (l.any fun x => m.contains x) = m.any fun x => l.contains x := by
 simp only [List.contains_eq_any_beq]
 rw [JY]
 congr 1
 funext u
 congr 1
 funext v
 exact BEq.comm
theorem H9 (a b : Want) : cross a b = cross b a := by
 unfold cross
 rw [zG a.2.2.2.2.1 b.2.2.2.2.1, zG a.2.2.2.2.1 b.2.2.2.2.2, zG a.2.2.2.2.2 b.2.2.2.2.1]
 cases (b.2.2.2.2.1.any fun x => a.2.2.2.2.1.contains x) <;> cases (b.2.2.2.2.2.any fun x => a.2.2.2.2.1.contains x) <;> cases (b.2.2.2.2.1.any fun x => a.2.2.2.2.2.contains x) <;> rfl
theorem TE (b : Book) (x y : List Txt) : clash b x y = clash b y x := by
 unfold clash
 congr 1
 funext f
 cases x.contains f.1 <;> cases y.contains f.1 <;> cases x.contains f.2 <;> cases y.contains f.2 <;> rfl
theorem Nq {N : Nat} (hN : lim < N) {b : Book} (hb : b.1.length ≤ 1048576) {x y : List Txt} (hx : x.length ≤ 1048576) (hy : y.length ≤ 1048576) : Us N b x y = some (clash b x y) := by
 have hlim := aQ
 unfold Us ad3
 refine (bU x _ (fun _ u => !(y.any fun v => mi b u v)) (some true) (some false) (fun g i hi => ?_) (fun g => ?_) N (by omega)).trans ?_
 ·unfold Ei
  simp only [dlt hi, dge, gAt hi, cond_true, wrS (show i ≤ 1000000000000000000 by omega)]
  rw [ak (Zy hN hb _ hy)]
  cases y.any fun v => mi b x[i] v <;> rfl
 ·unfold Ei
  rw [di]; rfl
 ·rw [dF, not_any, QU]
  cases x.any fun u => y.any fun v => mi b u v <;> rfl
def ja (b : Book) (w : Want) (u : Use) : Int :=
 bif u.2.1 == 2 then (bif clash b w.2.2.1 (bG b u.1).2.2.2.2 then 8 else bif decide ((o_ (bG b u.1).2.2.2.2 w.2.2.1 : Int) > 8) then 5 else 0)
 else bif (bG b u.1).2.2.2.2.all (fun x => w.2.2.1.contains x) then 0 else 8
def iV (b : Book) (w : Want) (u : Use) : Int :=
 bif u.2.1 == 1 && decide ((bG b u.1).2.2.1 < u.2.2) then 9
 else bif u.2.1 == 2 && decide (IntKind.i64.wrap ((bG b u.1).2.2.2.1 + u.2.2) > (bG b u.1).2.1) then 10
 else bif w.2.1 == 2 && decide ((bG b u.1).2.2.2.1 > 0) then 11 else 0
def first (f : Use → Int) (l : List Use) : Int := ((l.find? fun u => f u != 0).map f).getD 0
theorem VV (f : Use → Int) (l : List Use) (z : Int) : ((l.find? fun u => f u != 0).map f).getD z = bif first f l != 0 then first f l else z := by
 unfold first
 cases h : l.find? fun u => f u != 0 with
 | none => rfl
 | some u =>
  have := List.find?_some h
  simp only [Option.map_some, Option.getD_some]
  have h2 : (f u != 0) = true := by simpa using this
  rw [h2]; rfl
def dU (b : Book) (w : Want) : Int := bif clash b w.2.2.1 w.2.2.1 then 8 else bif w.2.1 == 1 then first (ja b w) w.2.2.2.1 else 0
def ik (b : Book) (w : Want) : Int := first (iV b w) w.2.2.2.1
theorem aaU {N : Nat} (hN : lim < N) {b : Book} {w : Want} (hb : smB b) (hw : smW w) (hk : dG b w = true) : aeZ N b w = some (ik b w) := by
 have hlim := aQ
 have h1 := hw.2.1.1
 unfold aeZ afq ik first
 refine ut w.2.2.2.1 _ (fun u => iV b w u != 0) (iV b w) 0 (fun g i hi => ?_) (fun g => ?_) N (by omega)
 ·obtain ⟨h2, h3⟩ := fU hk hi
  unfold E_
  simp only [dlt hi, dge, gAt hi, cond_true, wrS (show i ≤ 1000000000000000000 by omega)]
  rw [ak (wI hN hb.2.1.1 _), decide_eq_true h2, decide_eq_true h3]
  simp only [cond_true, show b.2.1.getD (atB b w.2.2.2.1[i].1).toNat az = bG b w.2.2.2.1[i].1 from rfl]
  unfold iV
  cases w.2.2.2.1[i].2.1 == 1 <;> cases decide ((bG b w.2.2.2.1[i].1).2.2.1 < w.2.2.2.1[i].2.2) <;> cases w.2.2.2.1[i].2.1 == 2 <;> cases decide (IntKind.i64.wrap ((bG b w.2.2.2.1[i].1).2.2.2.1 + w.2.2.2.1[i].2.2) > (bG b w.2.2.2.1[i].1).2.1) <;> cases w.2.1 == 2 <;> cases decide ((bG b w.2.2.2.1[i].1).2.2.2.1 > 0) <;> rfl
 ·unfold E_
  rw [di]; rfl
theorem Dc {N : Nat} (hN : lim < N) {b : Book} {w : Want} (hb : smB b) (hw : smW w) (hk : dG b w = true) (c : Bool) : zD N b (c, w) (w.2.2.2.1.length : Int) N 0 = some (ik b w) := by
 have hlim := aQ
 have h1 := hw.2.1.1
 unfold zD ik first
 refine ut w.2.2.2.1 _ (fun u => iV b w u != 0) (iV b w) 0 (fun g i hi => ?_) (fun g => ?_) N (by omega)
 ·obtain ⟨h2, h3⟩ := fU hk hi
  unfold Em
  simp only [dlt hi, dge, gAt hi, cond_true, wrS (show i ≤ 1000000000000000000 by omega)]
  rw [ak (vZ hN hb.2.1.1 _), decide_eq_true h2, decide_eq_true h3]
  simp only [cond_true, show b.2.1.getD (atB b w.2.2.2.1[i].1).toNat az = bG b w.2.2.2.1[i].1 from rfl]
  unfold iV
  cases w.2.2.2.1[i].2.1 == 1 <;> cases decide ((bG b w.2.2.2.1[i].1).2.2.1 < w.2.2.2.1[i].2.2) <;> cases w.2.2.2.1[i].2.1 == 2 <;> cases decide (IntKind.i64.wrap ((bG b w.2.2.2.1[i].1).2.2.2.1 + w.2.2.2.1[i].2.2) > (bG b w.2.2.2.1[i].1).2.1) <;> cases w.2.1 == 2 <;> cases decide ((bG b w.2.2.2.1[i].1).2.2.2.1 > 0) <;> rfl
 ·unfold Em
  rw [di]; rfl
theorem adu {N : Nat} (hN : lim < N) {b : Book} {w : Want} (hb : smB b) (hw : smW w) (hk : dG b w = true) : aiU N b w = some (dU b w) := by
 have hlim := aQ
 have h1 := hw.2.1.1
 unfold aiU ael dU
 rw [ak (Nq hN hb.1.1 hw.1.1 hw.1.1)]
 cases clash b w.2.2.1 w.2.2.1 with
 | true => rfl
 | false =>
  simp only [cond_false]
  cases hkind : w.2.1 == 1 with
  | false =>
   unfold O3
   rw [VR _ _ (by omega)]
   unfold yZ
   rw [hkind]
   cases decide ((0 : Int) < (w.2.2.2.1.length : Int)) <;> rfl
  | true =>
   unfold first
   refine ut w.2.2.2.1 _ (fun u => ja b w u != 0) (ja b w) 0 (fun g i hi => ?_) (fun g => ?_) N (by omega)
   ·obtain ⟨h2, h3⟩ := fU hk hi
    have hs := hb.2.1.2 _ (lM h2 h3)
    unfold yZ
    rw [hkind]
    simp only [dlt hi, dge, gAt hi, cond_true, wrS (show i ≤ 1000000000000000000 by omega)]
    rw [ak (wI hN hb.2.1.1 _), decide_eq_true h2, decide_eq_true h3]
    simp only [cond_true, show b.2.1.getD (atB b w.2.2.2.1[i].1).toNat az = bG b w.2.2.2.1[i].1 from rfl]
    simp only [ak (aeT hN hs.2.1 hw.1.1), ak (Nq hN hb.1.1 hw.1.1 hs.2.1), ak (anl hN hs.2.1 hw.1.1), aj9]
    unfold ja
    cases w.2.2.2.1[i].2.1 == 2 <;> cases (bG b w.2.2.2.1[i].1).2.2.2.2.all (fun x => w.2.2.1.contains x) <;> cases clash b w.2.2.1 (bG b w.2.2.2.1[i].1).2.2.2.2 <;> cases decide ((o_ (bG b w.2.2.2.1[i].1).2.2.2.2 w.2.2.1 : Int) > 8) <;> rfl
   ·unfold yZ
    rw [di]; rfl
theorem UJ {N : Nat} (hN : lim < N) {b : Book} {w : Want} (hb : smB b) (hw : smW w) (hk : dG b w = true) (c : Bool) (hd : ∀ s ∈ b.2.1, s.2.2.2.2.Nodup) (hdw : w.2.2.1.Nodup) :
 FT N b (c, w) (w.2.2.2.1.length : Int) N 0 = some (bif (bif w.2.1 == 1 then first (ja b w) w.2.2.2.1 else 0) != 0 then (bif w.2.1 == 1 then first (ja b w) w.2.2.2.1 else 0) else ik b w) := by
 have hlim := aQ
 have h1 := hw.2.1.1
 unfold FT
 cases hkind : w.2.1 == 1 with
 | false =>
  rw [VR _ _ (by omega)]
  unfold yN
  have e0 : Int.toNat (0 : Int) = 0 := rfl
  simp only [aj9, hkind, Bool.not_false, cond_true, Dc hN hb hw hk c]
  cases w.2.2.2.1 with
  | nil => rfl
  | cons u us =>
   rw [show decide ((0 : Int) < ((u :: us).length : Int)) = true from decide_eq_true (by simp only [List.length_cons]; omega)]
   rfl
 | true =>
  simp only [cond_true]
  rw [← VV]
  refine ut w.2.2.2.1 _ (fun u => ja b w u != 0) (ja b w) (ik b w) (fun g i hi => ?_) (fun g => ?_) N (by omega)
  ·obtain ⟨h2, h3⟩ := fU hk hi
   have hs := hb.2.1.2 _ (lM h2 h3)
   unfold yN
   simp only [aj9, hkind, Bool.not_true, cond_false, dlt hi, dge, gAt hi, cond_true, wrS (show i ≤ 1000000000000000000 by omega)]
   rw [ak (vZ hN hb.2.1.1 _), decide_eq_true h2, decide_eq_true h3]
   simp only [cond_true, show b.2.1.getD (atB b w.2.2.2.1[i].1).toNat az = bG b w.2.2.2.1[i].1 from rfl]
   simp only [ak (lF hN hs.2.1 hw.1.1), ak (Hq hN hb.1.1 hs.2.1 hw.1.1), ak (Qy (N := N) hs.2.1 hw.1.1), Qg (hd _ (lM h2 h3)) hdw]
   rw [TE b (bG b w.2.2.2.1[i].1).2.2.2.2 w.2.2.1]
   unfold ja
   cases w.2.2.2.1[i].2.1 == 2 <;> cases (bG b w.2.2.2.1[i].1).2.2.2.2.all (fun x => w.2.2.1.contains x) <;> cases clash b w.2.2.1 (bG b w.2.2.2.1[i].1).2.2.2.2 <;> cases decide ((o_ (bG b w.2.2.2.1[i].1).2.2.2.2 w.2.2.1 : Int) > 8) <;> rfl
  ·unfold yN
   rw [di]
   exact Dc hN hb hw hk c
end Go.MC
namespace Go.MC
open Go.MC.F
theorem YW {α : Type} (l : List α) (rd : (Int → Int → Int → List Txt → List Use → List Txt → List Txt → Option (Int × Want)) → Int → Int → Int → List Txt → List Use → List Txt → List Txt → Option (Int × Want)) (p : α → Bool) (c : Want)
 (hstep : ∀ (g : Int → Int → Int → List Txt → List Use → List Txt → List Txt → Option (Int × Want)) (i : Nat) (h : i < l.length), rd g (i : Int) c.1 c.2.1 c.2.2.1 c.2.2.2.1 c.2.2.2.2.1 c.2.2.2.2.2 = bif p l[i] then some ((i : Int), c) else g ((i + 1 : Nat) : Int) c.1 c.2.1 c.2.2.1 c.2.2.2.1 c.2.2.2.2.1 c.2.2.2.2.2)
 (hend : ∀ (g : Int → Int → Int → List Txt → List Use → List Txt → List Txt → Option (Int × Want)), rd g (l.length : Int) c.1 c.2.1 c.2.2.1 c.2.2.2.1 c.2.2.2.2.1 c.2.2.2.2.2 = some (-1, c)) (N : Nat) (hN : l.length < N) :
 lp (fun _ _ _ _ _ _ _ => none) rd N 0 c.1 c.2.1 c.2.2.1 c.2.2.2.1 c.2.2.2.2.1 c.2.2.2.2.2 = some (fP p 0 l, c) := by
 have := eQ l (fun (g : Int → Int → Int → List Txt → List Use → List Txt → List Txt → Option (Int × Want)) i (d : Want) => g (i : Int) d.1 d.2.1 d.2.2.1 d.2.2.2.1 d.2.2.2.2.1 d.2.2.2.2.2) (fun _ _ _ _ _ _ _ => none) rd (fun i d x => bif p x then .inr (some ((i : Int), d)) else .inl d) (fun d => some (-1, d)) (fun _ d => d = c)
  (fun g i st h hi => ⟨by
   subst hi
   rw [hstep g i h]
   cases p l[i] <;> rfl, fun st' hs => by
   subst hi
   cases hp : p l[i] with
   | true => rw [hp] at hs; cases hs
   | false => rw [hp] at hs; cases hs; rfl⟩) (fun g d hd => by subst hd; exact hend g) N hN c rfl
 refine this.trans ?_
 have : ∀ (l : List α) i, outW (fun d => some (-1, d)) (dL (fun i (d : Want) x => bif p x then Sum.inr (some ((i : Int), d)) else Sum.inl d) i l c) = some (fP p i l, c) := by
  intro l
  induction l with
  | nil => intro i; rfl
  | cons x xs ih =>
   intro i
   simp only [dL, fP]
   cases p x with
   | false => simpa using ih (i + 1)
   | true => rfl
 exact this l 0
theorem Vy {N : Nat} (hN : lim < N) {b : Book} {w : Want} (hb : smB b) (hw : smW w) : f_1 N b.2.2.2.1 w = some (b.2.2.2.1.any fun p => share p.1 w, w) := by
 have hlim := aQ
 have hlp := hb.2.2.2.1
 unfold f_1
 have h : f_5 N b.2.2.2.1 w = some (fP (fun p : Part => share p.1 w) 0 b.2.2.2.1, w) := by
  unfold f_5 aqm
  refine YW b.2.2.2.1 _ (fun p : Part => share p.1 w) w (fun g i hi => ?_) (fun g => ?_) N (by omega)
  ·unfold OX
   simp only [dlt hi, dge, gAt hi, cond_true, wrS (show i ≤ 1000000000000000000 by omega)]
   have h1 : aaV N b.2.2.2.1[i] (w.1, w.2.1, w.2.2.1, w.2.2.2.1, w.2.2.2.2.1, w.2.2.2.2.2) = some (share b.2.2.2.1[i].1 w, w) := by
    show aaV N b.2.2.2.1[i] w = _
    unfold aaV
    rw [ak (KW hN (hb.2.2.2.2 _ (List.getElem_mem hi)) hw)]
   rw [ak h1]
  ·unfold OX
   rw [di]; rfl
 rw [ak h, fC]
theorem Qu {N : Nat} (hN : lim < N) {b : Book} {w : Want} (hb : smB b) (hw : smW w) : f_2 N b.2.2.2.1 w = some (b.2.2.2.1.any fun p => cross p.1 w, w) := by
 have hlim := aQ
 have hlp := hb.2.2.2.1
 unfold f_2
 have h : f_6 N b.2.2.2.1 w = some (fP (fun p : Part => cross p.1 w) 0 b.2.2.2.1, w) := by
  unfold f_6 aqS
  refine YW b.2.2.2.1 _ (fun p : Part => cross p.1 w) w (fun g i hi => ?_) (fun g => ?_) N (by omega)
  ·unfold NJ
   simp only [dlt hi, dge, gAt hi, cond_true, wrS (show i ≤ 1000000000000000000 by omega)]
   have h1 : aa5 N b.2.2.2.1[i] (w.1, w.2.1, w.2.2.1, w.2.2.2.1, w.2.2.2.2.1, w.2.2.2.2.2) = some (cross b.2.2.2.1[i].1 w, w) := by
    show aa5 N b.2.2.2.1[i] w = _
    unfold aa5
    rw [ak (LX hN (hb.2.2.2.2 _ (List.getElem_mem hi)) hw)]
   rw [ak h1]
  ·unfold NJ
   rw [di]; rfl
 rw [ak h, fC]
def Dl (b : Book) (n : Int) : Part := b.2.2.2.1.getD (partAt b n).toNat bC
def cO (b : Book) (w : Want) : Int :=
 bif !aS b then 1 else bif !dC w then 2 else bif !dG b w then 2 else
 bif decide (partAt b w.1 ≥ 0) then (bif uf (Dl b w.1).1 w then 0 else 3) else
 bif decide (w.1 ≤ b.2.2.2.2) then 4 else bif decide ((b.2.2.2.1.length : Int) ≥ 6) then 5 else
 bif b.2.2.2.1.any (fun p => share p.1 w) then 6 else bif b.2.2.2.1.any (fun p => cross p.1 w) then 7 else
 bif dU b w != 0 then dU b w else ik b w
theorem PH {b : Book} {n : Int} (h : 0 ≤ partAt b n) : partAt b n < b.2.2.2.1.length := by
 have := Fp (fun p : Part => p.1.1 == n) b.2.2.2.1 0 h
 unfold partAt
 omega
theorem J8 {b : Book} {n : Int} (h : 0 ≤ partAt b n) : Dl b n ∈ b.2.2.2.1 := by
 have := PH h
 exact getD_mem (by omega) _
theorem akh {N : Nat} (hN : lim < N) {b : Book} {w : Want} (hb : smB b) (hw : smW w) : akk N b w = some (cO b w) := by
 have hlim := aQ
 have hlp := hb.2.2.2.1
 unfold akk aiF cO
 rw [ak (jr hN hb)]
 cases hbk : aS b with
 | false => rfl
 | true =>
  simp only [Bool.not_true, cond_false]
  rw [ak (I7 hN hw)]
  cases dC w with
  | false => rfl
  | true =>
   simp only [Bool.not_true, cond_false]
   rw [ak (Zq hN hb hw)]
   cases hk : dG b w with
   | false => rfl
   | true =>
    simp only [Bool.not_true, cond_false]
    rw [ak (Og hN hb w.1)]
    cases hp : decide (partAt b w.1 ≥ 0) with
    | true =>
     have hp' : 0 ≤ partAt b w.1 := of_decide_eq_true hp
     rw [show decide (partAt b w.1 < (b.2.2.2.1.length : Int)) = true from decide_eq_true (PH hp')]
     simp only [cond_true]
     rw [ak (show abm N (b.2.2.2.1.getD (partAt b w.1).toNat bC).1 w = _ from aqd hN (hb.2.2.2.2 _ (J8 hp')))]
     show (bif uf (Dl b w.1).1 w then some 0 else some 3) = _
     cases uf (Dl b w.1).1 w <;> rfl
    | false =>
     simp only [cond_false]
     cases decide (w.1 ≤ b.2.2.2.2) with
     | true => rfl
     | false =>
      simp only [cond_false]
      cases decide ((b.2.2.2.1.length : Int) ≥ 6) with
      | true => rfl
      | false =>
       simp only [cond_false]
       have k2 : FU N b w N 0 = some (bif b.2.2.2.1.any (fun p => cross p.1 w) then 7 else bif dU b w != 0 then dU b w else ik b w) := by
        refine (bU b.2.2.2.1 _ (fun _ p => !cross p.1 w) (some 7) (some (bif dU b w != 0 then dU b w else ik b w)) (fun g i hi => ?_) (fun g => ?_) N (by omega)).trans ?_
        ·unfold Fe
         simp only [dlt hi, dge, gAt hi, cond_true, wrS (show i ≤ 1000000000000000000 by omega)]
         rw [ak (LZ hN hw (hb.2.2.2.2 _ (List.getElem_mem hi))), H9 w]
         cases cross b.2.2.2.1[i].1 w <;> rfl
        ·unfold Fe
         rw [di, cond_false, ak (adu hN hb hw hk), ak (aaU hN hb hw hk)]
         cases dU b w != 0 <;> rfl
        ·rw [dF, not_any]
         cases b.2.2.2.1.any fun p => cross p.1 w <;> rfl
       refine (bU b.2.2.2.1 _ (fun _ p => !share p.1 w) (some 6) (some (bif b.2.2.2.1.any (fun p => cross p.1 w) then 7 else bif dU b w != 0 then dU b w else ik b w)) (fun g i hi => ?_) (fun g => ?_) N (by omega)).trans ?_
       ·have hpi := hb.2.2.2.2 _ (List.getElem_mem hi)
        unfold EF
        simp only [dlt hi, dge, gAt hi, cond_true, wrS (show i ≤ 1000000000000000000 by omega)]
        rw [ak (OC hN hw), ak (OC hN hpi), ak (ZP hN hw hpi), oG w]
        cases share b.2.2.2.1[i].1 w <;> rfl
       ·unfold EF
        rw [di, cond_false]
        exact k2
       ·rw [dF, not_any]
        cases b.2.2.2.1.any fun p => share p.1 w <;> rfl
theorem aci {b : Book} (h : aS b = true) : ∀ s ∈ b.2.1, s.2.2.2.2.Nodup := by
 intro s hs
 simp only [aS, qF, Bool.and_eq_true] at h
 obtain ⟨i, hi⟩ := List.getElem?_of_mem hs
 have := dR.1 h.2.2.2.1.2 i s hi
 simp only [iT, gJ, Bool.and_eq_true] at this
 exact uu this.1.2.2.2.2.1
theorem QI {w : Want} (h : dC w = true) : w.2.2.1.Nodup := by
 simp only [dC, Bool.and_eq_true] at h
 exact uu h.2.2.2.2.2.2.2.2.1
theorem abp {b : Book} (h : aS b = true) : ((b.2.2.2.1.length : Int) == 6) = decide ((b.2.2.2.1.length : Int) ≥ 6) := by
 simp only [aS, jH, Bool.and_eq_true] at h
 have h1 : ¬ ((b.2.2.2.1.length : Int) > 6) := by simpa using h.2.2.2.2.1
 by_cases h6 : (b.2.2.2.1.length : Int) = 6
 ·rw [h6]; rfl
 ·rw [beq_eq_false_iff_ne.2 h6, decide_eq_false (by omega)]
theorem agx {N : Nat} (hN : lim < N) {b : Book} {w : Want} (hb : smB b) (hw : smW w) : ada N b w = some (cO b w) := by
 have hlim := aQ
 have hlp := hb.2.2.2.1
 unfold ada ahU cO
 rw [ak (jm hN hb)]
 cases hbk : aS b with
 | false => rfl
 | true =>
  simp only [Bool.not_true, cond_false]
  rw [ak (Iw hN hw)]
  cases hwk : dC w with
  | false => rfl
  | true =>
   simp only [Bool.not_true, cond_false]
   rw [ak (J4 hN hb hw)]
   cases hk : dG b w with
   | false => rfl
   | true =>
    simp only [Bool.not_true, cond_false]
    rw [ak (yT hN hb w.1)]
    cases hp : decide (partAt b w.1 ≥ 0) with
    | true =>
     have hp' : 0 ≤ partAt b w.1 := of_decide_eq_true hp
     rw [show decide (partAt b w.1 < (b.2.2.2.1.length : Int)) = true from decide_eq_true (PH hp')]
     simp only [cond_true]
     rw [ak (show NC N (b.2.2.2.1.getD (partAt b w.1).toNat bC).1 w = _ from agt hN (hb.2.2.2.2 _ (J8 hp')))]
     show (bif uf (Dl b w.1).1 w then some 0 else some 3) = _
     cases uf (Dl b w.1).1 w <;> rfl
    | false =>
     simp only [cond_false]
     cases decide (w.1 ≤ b.2.2.2.2) with
     | true => rfl
     | false =>
      simp only [cond_false]
      rw [abp hbk]
      cases decide ((b.2.2.2.1.length : Int) ≥ 6) with
      | true => rfl
      | false =>
       simp only [cond_false]
       rw [ak (Vy hN hb hw)]
       cases b.2.2.2.1.any fun p => share p.1 w with
       | true => rfl
       | false =>
        simp only [cond_false]
        rw [ak (Qu hN hb hw)]
        cases b.2.2.2.1.any fun p => cross p.1 w with
        | true => rfl
        | false =>
         simp only [cond_false]
         rw [ak (Hq hN hb.1.1 hw.1.1 hw.1.1)]
         unfold dU
         cases clash b w.2.2.1 w.2.2.1 with
         | true => rfl
         | false => exact UJ hN hb hw hk false (aci hbk) (QI hwk)
end Go.MC
namespace Go.MC
open Go.MC.F
def gK (n : Txt) (sp : List aP) : Int := fP (fun s : aP => s.1 == n) 0 sp
theorem Gq : ∀ (sp : List aP) (n : Txt) (i : Nat), fP (fun s : aP => s.1 == n) i sp = fP (fun x => x == n) i (sp.map (·.1))
 | [], _, _ => rfl
 | s :: sp, n, i => by simp only [List.map_cons, fP]; rw [Gq sp n (i + 1)]
theorem wP {sp sq : List aP} (h : sp.map (·.1) = sq.map (·.1)) (n : Txt) : gK n sp = gK n sq := by
 unfold gK; rw [Gq, Gq, h]
theorem qB {α β : Type} {l : List α} {k : Nat} {v : α} (f : α → β) (h : (hk : k < l.length) → f v = f l[k]) : (l.set k v).map f = l.map f := by
 refine List.ext_getElem (by simp) fun i h1 h2 => ?_
 simp only [List.length_map, List.length_set] at h1 h2
 simp only [List.getElem_map, List.getElem_set]
 by_cases e : k = i
 ·subst e; simp [h h2]
 ·simp [e]
theorem sAt {α : Type} {l : List α} {i : Nat} (x : α) : l.set (Int.toNat (i : Int)) x = l.set i x := by rw [Int.toNat_natCast]
theorem gS' {α : Type} {l : List α} {i : Nat} {x : α} (h : i < l.length) (d : α) : (l.set i x).getD i d = x := by
 rw [List.getD_eq_getElem?_getD, List.getElem?_set_self h]; rfl
theorem sS' {α : Type} {l : List α} {i : Nat} {x y : α} : (l.set i x).set i y = l.set i y := List.set_set ..
theorem nH {σ α ρ : Type} (f : σ → α → σ) (fin : σ → Option ρ) : ∀ (xs : List α) (i : Nat) (d : σ), outW fin (dL (fun _ d x => (Sum.inl (f d x) : σ ⊕ Option ρ)) i xs d) = fin (xs.foldl f d)
 | [], _, _ => rfl
 | x :: xs, i, d => by
  simp only [dL, List.foldl_cons]
  exact nH f fin xs (i + 1) (f d x)
end Go.MC
namespace Go.MC
open Go.MC.F
def nY (w : Want) (u : Use) (s : aP) : aP :=
 (s.1, s.2.1, (bif u.2.1 == 1 then IntKind.i64.wrap (s.2.2.1 - u.2.2) else s.2.2.1), (bif u.2.1 == 2 then IntKind.i64.wrap (s.2.2.2.1 + u.2.2) else s.2.2.2.1), (bif u.2.1 != 1 then nT s.2.2.2.2 w.2.2.1 else s.2.2.2.2))
def Hy (w : Want) (sp : List aP) (u : Use) : List aP := sp.set (gK u.1 sp).toNat (nY w u (sp.getD (gK u.1 sp).toNat az))
def WZ (n : Nat) (s : aP) : Prop := smT s.1 ∧ Asc s.2.2.2.2 ∧ (∀ x ∈ s.2.2.2.2, smT x) ∧ s.2.2.2.2.length ≤ n
structure D7 (b : Book) (i : Nat) (sp : List aP) : Prop where
 names : sp.map (·.1) = b.2.1.map (·.1)
 good : ∀ s ∈ sp, WZ (8 + 8 * i) s
theorem D7.len {b : Book} {i : Nat} {sp : List aP} (h : D7 b i sp) : sp.length = b.2.1.length := by
 have := congrArg List.length h.names
 simpa using this
theorem ab_ {w : Want} {u : Use} {n : Nat} {s : aP} (h : WZ n s) (hw : w.2.2.1.length ≤ 8) (hx : ∀ x ∈ w.2.2.1, smT x) : WZ (n + 8) (nY w u s) := by
 obtain ⟨h1, h2, h3, h4⟩ := h
 unfold nY WZ
 refine ⟨h1, ?_⟩
 simp only
 cases u.2.1 != 1 with
 | false => exact ⟨h2, h3, by simp only [cond_false]; omega⟩
 | true =>
  simp only [cond_true]
  have := Dn w.2.2.1 s.2.2.2.2
  refine ⟨tu _ h2, fun x hm => ?_, by omega⟩
  rcases jW.1 hm with h | h
  ·exact h3 x h
  ·exact hx x h
theorem D7.step {b : Book} {i : Nat} {sp : List aP} (h : D7 b i sp) {w : Want} (u : Use) (hw : w.2.2.1.length ≤ 8) (hx : ∀ x ∈ w.2.2.1, smT x) : D7 b (i + 1) (Hy w sp u) := by
 refine ⟨?_, fun s hs => ?_⟩
 ·rw [← h.names]
  refine qB _ fun hk => ?_
  unfold nY
  simp only [List.getD_eq_getElem?_getD, List.getElem?_eq_getElem hk, Option.getD_some]
 ·have e : 8 + 8 * (i + 1) = 8 + 8 * i + 8 := by omega
  rw [e]
  by_cases hk : (gK u.1 sp).toNat < sp.length
  ·rcases List.mem_or_eq_of_mem_set hs with hs | hs
   ·obtain ⟨h1, h2, h3, h4⟩ := h.good s hs
    exact ⟨h1, h2, h3, by omega⟩
   ·subst hs
    exact ab_ (h.good _ (getD_mem hk _)) hw hx
  ·unfold Hy at hs
   rw [List.set_eq_of_length_le (by omega)] at hs
   obtain ⟨h1, h2, h3, h4⟩ := h.good s hs
   exact ⟨h1, h2, h3, by omega⟩
theorem D7.at {b : Book} {i : Nat} {sp : List aP} (h : D7 b i sp) {w : Want} (hk : dG b w = true) {j : Nat} (hj : j < w.2.2.2.1.length) : 0 ≤ gK w.2.2.2.1[j].1 sp ∧ gK w.2.2.2.1[j].1 sp < (sp.length : Int) := by
 have h1 := fU hk hj
 rw [wP h.names, h.len]
 exact h1
theorem Aw {N : Nat} (hN : lim < N) {nx : Int → List aP → Option Book} {b0 : List Foe} {b2 : List Txt} {b3 : List Part} {b4 : Int} {w : Want} {t i : Int} {k : Nat} {n : Txt} {role am : Int} {sp : List aP} (hk : k < sp.length) (hw : w.2.2.1.length ≤ 8) (hs : (sp.getD k az).2.2.2.2.length ≤ 1000) :
 mD N nx b0 b2 b3 b4 w t i (k : Int) n role am N 0 sp = nx (IntKind.i64.wrap (i + 1)) (bif role != 1 then sp.set k ((sp.getD k az).1, (sp.getD k az).2.1, (sp.getD k az).2.2.1, (sp.getD k az).2.2.2.1, nT (sp.getD k az).2.2.2.2 w.2.2.1) else sp) := by
 have hlim := aQ
 cases hr : role != 1 with
 | false =>
  unfold mD
  rw [VR _ _ (show 0 < N by omega)]
  unfold nS
  rw [hr, cond_false]
  cases decide ((0 : Int) < (w.2.2.1.length : Int)) <;> rfl
 | true =>
  rw [cond_true]
  unfold mD
  have := eQ w.2.2.1 (fun (g : Int → List aP → Option Book) i (d : List aP) => g (i : Int) d) (fun _ _ => none) (nS N nx b0 b2 b3 b4 w t i (k : Int) n role am)
   (fun _ d x => .inl (d.set k ((d.getD k az).1, (d.getD k az).2.1, (d.getD k az).2.2.1, (d.getD k az).2.2.2.1, m_ (d.getD k az).2.2.2.2 x))) (fun d => nx (IntKind.i64.wrap (i + 1)) d) (fun j d => d.length = sp.length ∧ (d.getD k az).2.2.2.2.length ≤ 1000 + j)
   (fun g j d h hi => ⟨by
    obtain ⟨h1, h2⟩ := hi
    have hkd : k < d.length := by omega
    unfold nS
    simp only [dlt h, dge, gAt h, rP, sAt, hr, cond_true, wrS (show j ≤ 1000000000000000000 by omega), dlt hkd, ak (ahk hN (show (d.getD k az).2.2.2.2.length ≤ 1048576 by omega) _)]
    rfl, fun st' hs => by
    cases hs
    obtain ⟨h1, h2⟩ := hi
    refine ⟨by simp [h1], ?_⟩
    rw [gS' (show k < d.length by omega)]
    have := tV (d.getD k az).2.2.2.2 w.2.2.1[j]
    show (m_ (d.getD k az).2.2.2.2 w.2.2.1[j]).length ≤ 1000 + (j + 1)
    omega⟩) (fun g d _ => by
    unfold nS
    rw [di]; rfl) N (by omega) sp ⟨rfl, by omega⟩
  refine this.trans ?_
  have : ∀ (xs : List Txt) (j : Nat) (d : List aP), k < d.length → outW (fun d => nx (IntKind.i64.wrap (i + 1)) d) (dL (fun _ (d : List aP) x => (Sum.inl (d.set k ((d.getD k az).1, (d.getD k az).2.1, (d.getD k az).2.2.1, (d.getD k az).2.2.2.1, m_ (d.getD k az).2.2.2.2 x)) : List aP ⊕ Option Book)) j xs d)
   = nx (IntKind.i64.wrap (i + 1)) (d.set k ((d.getD k az).1, (d.getD k az).2.1, (d.getD k az).2.2.1, (d.getD k az).2.2.2.1, nT (d.getD k az).2.2.2.2 xs)) := by
   intro xs
   induction xs with
   | nil =>
    intro j d hd
    simp only [dL, outW]
    congr 1
    show d = d.set k (d.getD k az)
    rw [List.getD_eq_getElem?_getD, List.getElem?_eq_getElem hd, Option.getD_some, List.set_getElem_self]
   | cons x xs ih =>
    intro j d hd
    simp only [dL]
    rw [ih _ _ (by simpa using hd), gS' hd, sS']
    rfl
  exact this w.2.2.1 0 sp hk
def Rx (b : Book) (w : Want) : Book := (b.1, w.2.2.2.1.foldl (Hy w) b.2.1, b.2.2.1, b.2.2.2.1 ++ [(w, false)], w.1)
theorem ady {b : Book} (hb : smB b) (hs : ∀ s ∈ b.2.1, dO s.2.2.2.2 8 = true) : D7 b 0 b.2.1 := by
 refine ⟨rfl, fun s h => ?_⟩
 have h1 := hb.2.1.2 s h
 have h2 := hs s h
 refine ⟨h1.1, XL h2, h1.2.2, ?_⟩
 unfold dO at h2
 simp only [Bool.and_eq_true, Bool.not_eq_true', decide_eq_false_iff_not] at h2
 omega
theorem arK {N : Nat} (hN : lim < N) {b : Book} {w : Want} (hb : smB b) (hw : smW w) (hs : ∀ s ∈ b.2.1, dO s.2.2.2.2 8 = true) (hk : dG b w = true) (h8 : w.2.2.1.length ≤ 8) (hu : w.2.2.2.1.length ≤ 8) :
 Ru N b.1 b.2.1 b.2.2.1 b.2.2.2.1 w.1 w = some (Rx b w) := by
 have hlim := aQ
 have hx : ∀ x ∈ w.2.2.1, smT x := hw.1.2
 have hlp := hb.2.2.2.1
 have hls := hb.2.1.1
 unfold Ru U1
 have := eQ w.2.2.2.1 (fun (g : Int → List aP → Option Book) i (d : List aP) => g (i : Int) d) (fun _ _ => none) (fun next => sQ N (mD N next b.1 b.2.2.1 b.2.2.2.1 w.1 w 0) b.1 b.2.2.1 b.2.2.2.1 w.1 w 0 next)
  (fun _ d u => .inl (Hy w d u)) (fun d => some (b.1, d, b.2.2.1, b.2.2.2.1 ++ [(w, false)], w.1)) (fun i d => D7 b i d)
  (fun g i d h hi => ⟨by
   obtain ⟨h1, h2⟩ := hi.at hk h
   have hld : d.length ≤ 1048576 := by rw [hi.len]; exact hls
   unfold sQ
   simp only [dlt h, dge, gAt h, cond_true]
   rw [ak (show D8 N (b.1, d, b.2.2.1, b.2.2.2.1, w.1) w.2.2.2.1[i].1 = some (gK w.2.2.2.1[i].1 d) from wI hN (b := (b.1, d, b.2.2.1, b.2.2.2.1, w.1)) hld _)]
   have hgood : (d.getD (gK w.2.2.2.1[i].1 d).toNat az).2.2.2.2.length ≤ 1000 := by
    have := (hi.good _ (getD_mem (show (gK w.2.2.2.1[i].1 d).toNat < d.length by omega) az)).2.2.2
    omega
   have hp : Hy w d w.2.2.2.1[i] = d.set (gK w.2.2.2.1[i].1 d).toNat (nY w w.2.2.2.1[i] (d.getD (gK w.2.2.2.1[i].1 d).toNat az)) := rfl
   obtain ⟨k, ek⟩ : ∃ k : Nat, gK w.2.2.2.1[i].1 d = (k : Int) := ⟨_, (Int.toNat_of_nonneg h1).symm⟩
   rw [ek] at h1 h2 hgood hp ⊢
   rw [Int.toNat_natCast] at hgood hp
   have hkd : k < d.length := by omega
   simp only [dlt hkd, dge, cond_true, List.length_set, rP, sAt]
   rw [hp]
   unfold nY
   by_cases r1 : w.2.2.2.1[i].2.1 = 1
   ·have q1 : (w.2.2.2.1[i].2.1 == 1) = true := by rw [r1]; rfl
    have q2 : (w.2.2.2.1[i].2.1 == 2) = false := by rw [r1]; rfl
    have q3 : (w.2.2.2.1[i].2.1 != 1) = false := by rw [r1]; rfl
    simp only [q1, q2, q3, cond_true, cond_false]
    rw [Aw hN (by simpa using hkd) h8 (by rw [gS' hkd]; exact hgood), q3, cond_false, wrS (show i ≤ 1000000000000000000 by omega)]
    rfl
   ·have q1 : (w.2.2.2.1[i].2.1 == 1) = false := beq_eq_false_iff_ne.2 r1
    have q3 : (w.2.2.2.1[i].2.1 != 1) = true := by simp [bne, q1]
    by_cases r2 : w.2.2.2.1[i].2.1 = 2
    ·have q2 : (w.2.2.2.1[i].2.1 == 2) = true := by rw [r2]; rfl
     simp only [q1, q2, q3, cond_true, cond_false]
     rw [Aw hN (by simpa using hkd) h8 (by rw [gS' hkd]; exact hgood), q3, cond_true, wrS (show i ≤ 1000000000000000000 by omega), gS' hkd, sS']
     rfl
    ·have q2 : (w.2.2.2.1[i].2.1 == 2) = false := beq_eq_false_iff_ne.2 r2
     simp only [q1, q2, q3, cond_true, cond_false]
     rw [Aw hN hkd h8 hgood, q3, cond_true, wrS (show i ≤ 1000000000000000000 by omega)]
     rfl, fun st' hs => by
   cases hs
   exact hi.step _ h8 hx⟩) (fun g d hd => by
   unfold sQ
   rw [di, cond_false, ak (ain hw)]
   have hg : decide ((b.2.2.2.1.length + [(w, false)].length) * 120 ≤ lim) = true := decide_eq_true (by simp only [List.length_cons, List.length_nil]; omega)
   rw [hg, cond_true]) N (by omega) b.2.1 (ady hb hs)
 refine this.trans ?_
 rw [nH]
 rfl
theorem amA {N : Nat} (hN : lim < N) {b : Book} {w : Want} (hb : smB b) (hw : smW w) (hs : ∀ s ∈ b.2.1, dO s.2.2.2.2 8 = true) (hk : dG b w = true) (h8 : w.2.2.1.length ≤ 8) (hu : w.2.2.2.1.length ≤ 8) :
 IK N w b (w.2.2.2.1.length : Int) 0 (b.2.2.2.1 ++ [(w, false)]) N 0 b.2.1 = some (Rx b w, 0) := by
 have hlim := aQ
 have hx : ∀ x ∈ w.2.2.1, smT x := hw.1.2
 have hlp := hb.2.2.2.1
 have hls := hb.2.1.1
 unfold IK
 have := eQ w.2.2.2.1 (fun (g : Int → List aP → Option (Book × Int)) i (d : List aP) => g (i : Int) d) (fun _ _ => none) (fun next => xn N w b (w.2.2.2.1.length : Int) 0 (b.2.2.2.1 ++ [(w, false)]) next)
  (fun _ d u => .inl (Hy w d u)) (fun d => some ((b.1, d, b.2.2.1, b.2.2.2.1 ++ [(w, false)], w.1), 0)) (fun i d => D7 b i d)
  (fun g i d h hi => ⟨by
   obtain ⟨h1, h2⟩ := hi.at hk h
   have hld : d.length ≤ 1048576 := by rw [hi.len]; exact hls
   unfold xn
   simp only [dlt h, dge, gAt h, cond_true]
   rw [ak (show zx N (b.1, d, b.2.2.1, b.2.2.2.1 ++ [(w, false)], w.1) w.2.2.2.1[i].1 = some (gK w.2.2.2.1[i].1 d) from vZ hN (b := (b.1, d, b.2.2.1, b.2.2.2.1 ++ [(w, false)], w.1)) hld _)]
   have hgd := hi.good _ (getD_mem (show (gK w.2.2.2.1[i].1 d).toNat < d.length by omega) az)
   have hgood : (d.getD (gK w.2.2.2.1[i].1 d).toNat az).2.2.2.2.length ≤ 1048576 := by
    have := hgd.2.2.2
    omega
   have hasc := hgd.2.1
   have hp : Hy w d w.2.2.2.1[i] = d.set (gK w.2.2.2.1[i].1 d).toNat (nY w w.2.2.2.1[i] (d.getD (gK w.2.2.2.1[i].1 d).toNat az)) := rfl
   obtain ⟨k, ek⟩ : ∃ k : Nat, gK w.2.2.2.1[i].1 d = (k : Int) := ⟨_, (Int.toNat_of_nonneg h1).symm⟩
   rw [ek] at h1 h2 hgood hp hasc ⊢
   rw [Int.toNat_natCast] at hgood hp hasc
   have hkd : k < d.length := by omega
   have hboth : xH N (d.getD k az).2.2.2.2 w.2.2.1 = some (nT (d.getD k az).2.2.2.2 w.2.2.1) := by
    rw [Qy hgood (show w.2.2.1.length ≤ 1048576 by omega), MQ hasc]
   simp only [dlt hkd, dge, cond_true, List.length_set, rP, sAt]
   rw [hp]
   unfold nY
   by_cases r1 : w.2.2.2.1[i].2.1 = 1
   ·have q1 : (w.2.2.2.1[i].2.1 == 1) = true := by rw [r1]; rfl
    have q2 : (w.2.2.2.1[i].2.1 == 2) = false := by rw [r1]; rfl
    have q3 : (w.2.2.2.1[i].2.1 != 1) = false := by rw [r1]; rfl
    simp only [q1, q2, q3, cond_true, cond_false, wrS (show i ≤ 1000000000000000000 by omega)]
    rfl
   ·have q1 : (w.2.2.2.1[i].2.1 == 1) = false := beq_eq_false_iff_ne.2 r1
    have q3 : (w.2.2.2.1[i].2.1 != 1) = true := by simp [bne, q1]
    by_cases r2 : w.2.2.2.1[i].2.1 = 2
    ·have q2 : (w.2.2.2.1[i].2.1 == 2) = true := by rw [r2]; rfl
     simp only [q1, q2, q3, cond_true, cond_false, gS' hkd, sS', ak hboth, decide_true, Bool.and_self, wrS (show i ≤ 1000000000000000000 by omega)]
     rfl
    ·have q2 : (w.2.2.2.1[i].2.1 == 2) = false := beq_eq_false_iff_ne.2 r2
     simp only [q1, q2, q3, cond_true, cond_false, gS' hkd, sS', ak hboth, decide_true, Bool.and_self, wrS (show i ≤ 1000000000000000000 by omega)]
     rfl, fun st' hs => by
   cases hs
   exact hi.step _ h8 hx⟩) (fun g d hd => by
   unfold xn
   rw [di]; rfl) N (by omega) b.2.1 (ady hb hs)
 refine this.trans ?_
 rw [nH]
 rfl
end Go.MC
namespace Go.MC
open Go.MC.F
theorem xu {f : Use → Int} {l : List Use} (h : ∀ u, 0 ≤ f u) : 0 ≤ first f l := by
 unfold first
 cases l.find? fun u => f u != 0 with
 | none => exact Int.le_refl 0
 | some u => exact h u
theorem Jh (b : Book) (w : Want) (u : Use) : 0 ≤ ja b w u := by
 unfold ja
 cases u.2.1 == 2 <;> cases clash b w.2.2.1 (bG b u.1).2.2.2.2 <;> cases decide ((o_ (bG b u.1).2.2.2.2 w.2.2.1 : Int) > 8) <;> cases (bG b u.1).2.2.2.2.all (fun x => w.2.2.1.contains x) <;> decide
theorem IY (b : Book) (w : Want) (u : Use) : 0 ≤ iV b w u := by
 unfold iV
 cases u.2.1 == 1 && decide ((bG b u.1).2.2.1 < u.2.2) <;> cases u.2.1 == 2 && decide (IntKind.i64.wrap ((bG b u.1).2.2.2.1 + u.2.2) > (bG b u.1).2.1) <;> cases w.2.1 == 2 && decide ((bG b u.1).2.2.2.1 > 0) <;> decide
theorem Jm (b : Book) (w : Want) : 0 ≤ dU b w := by
 unfold dU
 cases clash b w.2.2.1 w.2.2.1 with
 | true => exact (by decide : (0 : Int) ≤ 8)
 | false =>
  cases w.2.1 == 1 with
  | true => exact xu (Jh b w)
  | false => exact Int.le_refl 0
theorem Jb (b : Book) (w : Want) : 0 ≤ ik b w := xu (IY b w)
theorem wV (b : Book) (w : Want) : 0 ≤ cO b w ∧ (5 ≤ cO b w → partAt b w.1 < 0) ∧ (cO b w ≠ 1 → aS b = true) ∧ (cO b w = 0 → dC w = true ∧ dG b w = true) ∧ (cO b w = 0 → partAt b w.1 < 0 → (b.2.2.2.1.length : Int) < 6) := by
 unfold cO
 cases aS b with
 | false => exact ⟨(by decide : (0 : Int) ≤ 1), fun h => absurd h (by decide : ¬ (5 : Int) ≤ 1), fun h => absurd rfl h, fun h => absurd h (by decide : ¬ (1 : Int) = 0), fun h => absurd h (by decide : ¬ (1 : Int) = 0)⟩
 | true =>
  cases dC w with
  | false => exact ⟨(by decide : (0 : Int) ≤ 2), fun h => absurd h (by decide : ¬ (5 : Int) ≤ 2), fun _ => rfl, fun h => absurd h (by decide : ¬ (2 : Int) = 0), fun h => absurd h (by decide : ¬ (2 : Int) = 0)⟩
  | true =>
   cases dG b w with
   | false => exact ⟨(by decide : (0 : Int) ≤ 2), fun h => absurd h (by decide : ¬ (5 : Int) ≤ 2), fun _ => rfl, fun h => absurd h (by decide : ¬ (2 : Int) = 0), fun h => absurd h (by decide : ¬ (2 : Int) = 0)⟩
   | true =>
    simp only [Bool.not_true, cond_false]
    by_cases hp : partAt b w.1 ≥ 0
    ·rw [decide_eq_true hp, cond_true]
     cases uf (Dl b w.1).1 w with
     | true => exact ⟨(by decide : (0 : Int) ≤ 0), fun h => absurd h (by decide : ¬ (5 : Int) ≤ 0), fun _ => trivial, fun _ => ⟨trivial, trivial⟩, fun _ h => by omega⟩
     | false => exact ⟨(by decide : (0 : Int) ≤ 3), fun h => absurd h (by decide : ¬ (5 : Int) ≤ 3), fun _ => trivial, fun _ => ⟨trivial, trivial⟩, fun _ h => by omega⟩
    ·rw [decide_eq_false hp, cond_false]
     refine ⟨?_, fun _ => by omega, fun _ => trivial, fun _ => ⟨trivial, trivial⟩, fun h0 _ => ?_⟩
     ·have h1 := Jm b w
      have h2 := Jb b w
      cases decide (w.1 ≤ b.2.2.2.2) with
      | true => exact (by decide : (0 : Int) ≤ 4)
      | false =>
       cases decide ((b.2.2.2.1.length : Int) ≥ 6) with
       | true => exact (by decide : (0 : Int) ≤ 5)
       | false =>
        cases b.2.2.2.1.any (fun p => share p.1 w) with
        | true => exact (by decide : (0 : Int) ≤ 6)
        | false =>
         cases b.2.2.2.1.any (fun p => cross p.1 w) with
         | true => exact (by decide : (0 : Int) ≤ 7)
         | false =>
          cases dU b w != 0 with
          | true => exact h1
          | false => exact h2
     ·by_cases h6 : (b.2.2.2.1.length : Int) ≥ 6
      ·rw [decide_eq_true h6] at h0
       cases h4 : decide (w.1 ≤ b.2.2.2.2) with
       | true => rw [h4] at h0; exact absurd h0 (by decide : ¬ (4 : Int) = 0)
       | false => rw [h4] at h0; exact absurd h0 (by decide : ¬ (5 : Int) = 0)
      ·omega
def gQ (b : Book) (w : Want) : Book × Int :=
 bif cO b w == 1 then (([], [], [], [], 0), 1) else
 bif inB (cO b w) 2 4 then (b, cO b w) else
 bif decide (partAt b w.1 ≥ 0) then (b, cO b w) else
 bif cO b w == 0 then (Rx b w, cO b w) else ((b.1, b.2.1, b.2.2.1, b.2.2.2.1, w.1), cO b w)
theorem Am {b : Book} (h : aS b = true) : ∀ s ∈ b.2.1, dO s.2.2.2.2 8 = true := by
 intro s hs
 simp only [aS, qF, Bool.and_eq_true] at h
 obtain ⟨i, hi⟩ := List.getElem?_of_mem hs
 have := dR.1 h.2.2.2.1.2 i s hi
 simp only [iT, gJ, Bool.and_eq_true] at this
 exact this.1.2.2.2.2.1
theorem Zt {l : List Txt} {n : Int} (h : dO l n = true) : (l.length : Int) ≤ n := by
 unfold dO at h
 simp only [Bool.and_eq_true, Bool.not_eq_true', decide_eq_false_iff_not] at h
 omega
theorem BM {w : Want} (h : dC w = true) : w.2.2.1.length ≤ 8 ∧ w.2.2.2.1.length ≤ 8 := by
 simp only [dC, pR, Bool.and_eq_true, Bool.not_eq_true', decide_eq_false_iff_not] at h
 have := Zt h.2.2.2.2.2.2.2.2.1
 have := h.2.2.1.1
 omega
theorem Lj {b : Book} {w : Want} (h8 : w.2.2.1.length ≤ 8) (hx : ∀ x ∈ w.2.2.1, smT x) : ∀ (us : List Use) (i : Nat) (sp : List aP), D7 b i sp → D7 b (i + us.length) (us.foldl (Hy w) sp)
 | [], i, sp, h => h
 | u :: us, i, sp, h => by
  have := Lj h8 hx us (i + 1) (Hy w sp u) (h.step u h8 hx)
  rw [List.foldl_cons, List.length_cons, show i + (us.length + 1) = i + 1 + us.length by omega]
  exact this
theorem aqi {b : Book} {w : Want} (hb : smB b) (hw : smW w) (hs : aS b = true) (hwk : dC w = true) (h6 : (b.2.2.2.1.length : Int) < 6) : smB (Rx b w) := by
 obtain ⟨h8, hu⟩ := BM hwk
 have := Lj h8 hw.1.2 w.2.2.2.1 0 b.2.1 (ady hb (Am hs))
 refine ⟨hb.1, ⟨?_, fun s h => ?_⟩, hb.2.2.1, ?_, fun p h => ?_⟩
 ·show (w.2.2.2.1.foldl (Hy w) b.2.1).length ≤ _
  rw [this.len]; exact hb.2.1.1
 ·obtain ⟨h1, h2, h3, h4⟩ := this.good s h
  exact ⟨h1, by omega, h3⟩
 ·show (b.2.2.2.1 ++ [(w, false)]).length ≤ _
  simp; omega
 ·rcases List.mem_append.1 (show p ∈ b.2.2.2.1 ++ [(w, false)] from h) with h | h
  ·exact hb.2.2.2.2 p h
  ·obtain rfl := List.mem_singleton.1 h
   exact hw
theorem anK {b : Book} (hb : smB b) (n : Int) : smB (b.1, b.2.1, b.2.2.1, b.2.2.2.1, n) := hb
theorem BF {N : Nat} (hN : lim < N) {b : Book} {w : Want} (hb : smB b) (hw : smW w) : U7 N b w = some (gQ b w) := by
 obtain ⟨f1, f2, f3, f4, f5⟩ := wV b w
 unfold U7 gQ
 rw [ak (akh hN hb hw)]
 cases h1 : cO b w == 1 with
 | true => rfl
 | false =>
  simp only [cond_false]
  rw [ak (oU hN hb), ak (Je _ _ _)]
  cases inB (cO b w) 2 4 with
  | true => rfl
  | false =>
   simp only [cond_false]
   rw [ak (Og hN hb _)]
   by_cases hp : partAt b w.1 ≥ 0
   ·rw [decide_eq_true hp]; rfl
   ·rw [decide_eq_false hp]
    simp only [cond_false]
    cases h0 : cO b w == 0 with
    | true =>
     have e0 : cO b w = 0 := beq_iff_eq.1 h0
     obtain ⟨g1, g2⟩ := f4 e0
     have g3 := f3 (by omega)
     have g6 := f5 e0 (by omega)
     obtain ⟨l1, l2⟩ := BM g1
     simp only [cond_true]
     rw [ak (arK hN hb hw (Am g3) g2 l1 l2), ak (oU hN (aqi hb hw g3 g1 g6))]
    | false =>
     simp only [cond_false]
     rw [ak (oU hN (anK hb _))]
theorem CP {N : Nat} (hN : lim < N) {b : Book} {w : Want} (hb : smB b) (hw : smW w) : Ua N b w = some (gQ b w) := by
 obtain ⟨f1, f2, f3, f4, f5⟩ := wV b w
 have hlim := aQ
 unfold Ua afU gQ
 rw [ak (agx hN hb hw)]
 cases h1 : cO b w == 1 with
 | true => rfl
 | false =>
  have n1 : cO b w ≠ 1 := beq_eq_false_iff_ne.1 h1
  simp only [cond_false]
  rw [ak (xA hN hb)]
  by_cases h5 : cO b w ≥ 5
  ·rw [decide_eq_true h5]
   have e0 : (cO b w == 0) = false := beq_eq_false_iff_ne.2 (by omega)
   have e1 : (cO b w != 0) = true := by simp [bne, e0]
   have e2 : inB (cO b w) 2 4 = false := by unfold inB; rw [decide_eq_false (show ¬ cO b w ≤ 4 by omega)]; simp
   have e3 : decide (partAt b w.1 ≥ 0) = false := decide_eq_false (by have := f2 h5; omega)
   simp only [e0, e1, e2, e3, cond_true, cond_false]
  ·rw [decide_eq_false h5]
   cases h0 : cO b w == 0 with
   | false =>
    have n0 : cO b w ≠ 0 := beq_eq_false_iff_ne.1 h0
    have e1 : (cO b w != 0) = true := by simp [bne, h0]
    have e2 : inB (cO b w) 2 4 = true := by unfold inB; rw [decide_eq_true (show cO b w ≤ 4 by omega), decide_eq_true (show cO b w ≥ 2 by omega)]; rfl
    simp only [e1, e2, cond_true, cond_false]
   | true =>
    have e0 : cO b w = 0 := beq_iff_eq.1 h0
    have e1 : (cO b w != 0) = false := by simp [bne, h0]
    have e2 : inB (cO b w) 2 4 = false := by unfold inB; rw [decide_eq_false (show ¬ cO b w ≥ 2 by omega)]; rfl
    simp only [e1, e2, cond_true, cond_false]
    rw [ak (yT hN hb _)]
    by_cases hp : partAt b w.1 ≥ 0
    ·rw [decide_eq_true hp]; rfl
    ·rw [decide_eq_false hp]
     obtain ⟨g1, g2⟩ := f4 e0
     have g3 := f3 (by omega)
     have g6 := f5 e0 (by omega)
     obtain ⟨l1, l2⟩ := BM g1
     simp only [cond_false]
     rw [ak (yL hw)]
     have hg : decide ((List.length b.2.2.2.1 + [(w, false)].length) * 120 ≤ lim) = true := decide_eq_true (by simp only [List.length_cons, List.length_nil]; omega)
     rw [hg, cond_true, amA hN hb hw (Am g3) g2 l1 l2, e0]
end Go.MC
namespace Go.MC
open Go.MC.F
theorem wrA (a b : Int) : IntKind.i64.wrap (a + IntKind.i64.wrap b) = IntKind.i64.wrap (a + b) := by
 simp only [IntKind.wrap_i64]; omega
theorem wrB (a b : Int) : IntKind.i64.wrap (IntKind.i64.wrap a + b) = IntKind.i64.wrap (a + b) := by
 simp only [IntKind.wrap_i64]; omega
theorem wrC (a b : Int) : IntKind.i64.wrap (IntKind.i64.wrap a - b) = IntKind.i64.wrap (a - b) := by
 simp only [IntKind.wrap_i64]; omega
theorem wrD (a b : Int) : IntKind.i64.wrap (a - IntKind.i64.wrap b) = IntKind.i64.wrap (a - b) := by
 simp only [IntKind.wrap_i64]; omega
def jb (w : Want) (moved : Int) (done : Bool) (u : Use) (s : aP) : aP :=
 (s.1, s.2.1, (bif u.2.1 == 1 then IntKind.i64.wrap (s.2.2.1 + u.2.2 - moved) else bif u.2.1 == 2 then IntKind.i64.wrap (s.2.2.1 + moved) else s.2.2.1),
  (bif u.2.1 == 1 then IntKind.i64.wrap (s.2.2.2.1 - moved) else bif u.2.1 == 2 then IntKind.i64.wrap (s.2.2.2.1 - u.2.2 + moved) else s.2.2.2.1), (bif w.2.1 == 2 then (bif done then [] else s.2.2.2.2) else s.2.2.2.2))
def overS (w : Want) (moved : Int) (done : Bool) (sp : List aP) (u : Use) : List aP := sp.set (gK u.1 sp).toNat (jb w moved done u (sp.getD (gK u.1 sp).toNat az))
theorem adG {N : Nat} (s : aP) (w : Want) (u : Use) (moved : Int) (done : Bool) : afD N s w u moved done = some (jb w moved done u s) := by
 unfold afD jb
 by_cases r1 : u.2.1 = 1
 ·have q1 : (u.2.1 == 1) = true := by rw [r1]; rfl
  have q2 : (u.2.1 == 2) = false := by rw [r1]; rfl
  simp only [q1, q2, cond_true, cond_false, wrC]
  cases w.2.1 == 2 <;> cases done <;> rfl
 ·have q1 : (u.2.1 == 1) = false := beq_eq_false_iff_ne.2 r1
  simp only [q1, cond_false]
  cases q2 : u.2.1 == 2
  ·cases w.2.1 == 2 <;> cases done <;> rfl
  ·simp only [cond_true, wrB]
   cases w.2.1 == 2 <;> cases done <;> rfl
def sK (moved : Int) (u : Use) : Bool := !((u.2.1 != 3) && decide (moved > u.2.2))
def jD (w : Want) (moved : Int) : Bool := !decide (moved < 0) && w.2.2.2.1.all (sK moved)
theorem Qs {α : Type} (p : α → Bool) (l : List α) : eY (fun _ x => p x) 0 l = l.all p := by
 rw [Bool.eq_iff_iff, dR, List.all_eq_true]
 constructor
 ·intro h x hx
  obtain ⟨i, hi⟩ := List.getElem?_of_mem hx
  exact h i x hi
 ·intro h j x hx
  exact h x (List.mem_of_getElem? hx)
theorem al6 {N : Nat} (hN : lim < N) {w : Want} (hw : smW w) (moved : Int) : aeu N w moved = some (jD w moved) := by
 have hlim := aQ
 have h1 := hw.2.1.1
 unfold aeu aem jD
 cases decide (moved < 0) with
 | true => rfl
 | false =>
  refine (bU w.2.2.2.1 _ (fun _ u => sK moved u) (some false) (some true) (fun g i hi => ?_) (fun g => ?_) N (by omega)).trans ?_
  ·unfold Ff sK
   simp only [dlt hi, dge, gAt hi, cond_true, wrS (show i ≤ 1000000000000000000 by omega)]
   cases w.2.2.2.1[i].2.1 != 3 <;> cases decide (moved > w.2.2.2.1[i].2.2) <;> rfl
  ·unfold Ff
   rw [di]; rfl
  ·rw [Qs]
   cases w.2.2.2.1.all (sK moved) <;> rfl
structure OvI (b : Book) (sp : List aP) : Prop where
 names : sp.map (·.1) = b.2.1.map (·.1)
 good : ∀ s ∈ sp, smS s
theorem OvI.len {b : Book} {sp : List aP} (h : OvI b sp) : sp.length = b.2.1.length := by
 have := congrArg List.length h.names
 simpa using this
theorem OvI.step {b : Book} {sp : List aP} (h : OvI b sp) (w : Want) (moved : Int) (done : Bool) (u : Use) : OvI b (overS w moved done sp u) := by
 refine ⟨?_, fun s hs => ?_⟩
 ·rw [← h.names]
  refine qB _ fun hk => ?_
  unfold jb
  simp only [List.getD_eq_getElem?_getD, List.getElem?_eq_getElem hk, Option.getD_some]
 ·by_cases hk : (gK u.1 sp).toNat < sp.length
  ·rcases List.mem_or_eq_of_mem_set hs with hs | hs
   ·exact h.good s hs
   ·subst hs
    have hg := h.good _ (getD_mem hk az)
    refine ⟨hg.1, ?_⟩
    unfold jb
    simp only
    cases w.2.1 == 2 <;> cases done
    ·exact hg.2
    ·exact hg.2
    ·exact hg.2
    ·exact ⟨by simp, fun x hx => by simp at hx⟩
  ·unfold overS at hs
   rw [List.set_eq_of_length_le (by omega)] at hs
   exact h.good s hs
theorem OvI.at {b : Book} {sp : List aP} (h : OvI b sp) {w : Want} (hk : dG b w = true) {j : Nat} (hj : j < w.2.2.2.1.length) : atB b w.2.2.2.1[j].1 = gK w.2.2.2.1[j].1 sp ∧ 0 ≤ gK w.2.2.2.1[j].1 sp ∧ gK w.2.2.2.1[j].1 sp < (sp.length : Int) := by
 have h1 := fU hk hj
 have e : atB b w.2.2.2.1[j].1 = gK w.2.2.2.1[j].1 sp := wP h.names.symm _
 rw [← e, h.len]
 exact ⟨rfl, h1⟩
theorem RX {b : Book} {w : Want} {moved : Int} {done : Bool} : ∀ (us : List Use) (sp : List aP), OvI b sp → OvI b (us.foldl (overS w moved done) sp)
 | [], sp, h => h
 | u :: us, sp, h => RX us _ (h.step w moved done u)
def bJ (b : Book) (n : Int) : Part := b.2.2.2.1.getD (partAt b n).toNat bC
def Bh (b : Book) (n : Int) (moved : Int) (done : Bool) : Book :=
 (b.1, (bJ b n).1.2.2.2.1.foldl (overS (bJ b n).1 moved done) b.2.1, b.2.2.1, b.2.2.2.1.eraseIdx (partAt b n).toNat, b.2.2.2.2)
def jT (b : Book) (n : Int) (moved : Int) (done : Bool) : Book × Int :=
 bif aS b then (bif decide (partAt b n < 0) then (b, 3) else bif !jD (bJ b n).1 moved then (b, 2) else bif !(bJ b n).2 then (b, 12) else (Bh b n moved done, 0)) else (([], [], [], [], 0), 1)
theorem vT {b : Book} (h : aS b = true) {p : Part} (hp : p ∈ b.2.2.2.1) : dC p.1 = true ∧ dG b p.1 = true := by
 simp only [aS, jH, Bool.and_eq_true] at h
 obtain ⟨i, hi⟩ := List.getElem?_of_mem hp
 have := dR.1 h.2.2.2.2.2 i p hi
 simp only [jO, lu, Bool.and_eq_true] at this
 exact ⟨this.1.2.1, this.1.2.2.1⟩
theorem CE {b : Book} {n : Int} (h : 0 ≤ partAt b n) : bJ b n ∈ b.2.2.2.1 := by
 have := kQ h
 exact getD_mem (show (partAt b n).toNat < b.2.2.2.1.length by omega) _
theorem aoT {b : Book} (hb : smB b) (n moved : Int) (done : Bool) : smB (Bh b n moved done) := by
 have hi := RX (w := (bJ b n).1) (moved := moved) (done := done) (bJ b n).1.2.2.2.1 b.2.1 (⟨rfl, hb.2.1.2⟩ : OvI b b.2.1)
 refine ⟨hb.1, ⟨?_, hi.good⟩, hb.2.2.1, ?_, fun p hp => hb.2.2.2.2 p (List.mem_of_mem_eraseIdx hp)⟩
 ·have := hi.len
  have h2 := hb.2.1.1
  exact Nat.le_trans (Nat.le_of_eq this) h2
 ·exact Nat.le_trans (List.length_eraseIdx_le _ _) hb.2.2.2.1
theorem R_ {N : Nat} (hN : lim < N) {b : Book} (hb : smB b) (n moved : Int) (done : Bool) : aax N b n moved done = some (jT b n moved done) := by
 have hlim := aQ
 have hlp := hb.2.2.2.1
 have hls := hb.2.1.1
 unfold aax aeL jT
 rw [ak (jr hN hb)]
 cases hbk : aS b with
 | false => rfl
 | true =>
  simp only [Bool.not_true, cond_false, cond_true]
  rw [ak (oU hN hb), ak (Og hN hb n)]
  by_cases h : partAt b n < 0
  ·simp only [decide_eq_true h]; rfl
  ·have h0 : 0 ≤ partAt b n := by omega
   have h1 : decide (0 ≤ partAt b n) = true := decide_eq_true h0
   have hlt := kQ h0
   have h2 : decide (partAt b n < (b.2.2.2.1.length : Int)) = true := decide_eq_true hlt
   have hx : bJ b n ∈ b.2.2.2.1 := CE h0
   have hw : smW (bJ b n).1 := hb.2.2.2.2 _ hx
   have hk := (vT hbk hx).2
   have hu := hw.2.1.1
   simp only [decide_eq_false h, h1, h2, cond_false, cond_true]
   rw [show b.2.2.2.1.getD (partAt b n).toNat bC = bJ b n from rfl, ak (al6 hN hw moved)]
   cases jD (bJ b n).1 moved with
   | false => rfl
   | true =>
    simp only [Bool.not_true, cond_false]
    cases (bJ b n).2 with
    | false => rfl
    | true =>
     simp only [Bool.not_true, cond_false]
     have := eQ (bJ b n).1.2.2.2.1 (fun (g : Int → List aP → Option (Book × Int)) i (d : List aP) => g (i : Int) d) (fun _ _ => none)
      (fun next => zn N b moved done b (partAt b n) 0 (bJ b n).1.1 (bJ b n).1.2.1 (bJ b n).1.2.2.1 (bJ b n).1.2.2.2.1 (bJ b n).1.2.2.2.2.1 (bJ b n).1.2.2.2.2.2 next)
      (fun _ d u => .inl (overS (bJ b n).1 moved done d u)) (fun d => ob (F.yD N (b.1, d, b.2.2.1, b.2.2.2.1.eraseIdx (partAt b n).toNat, b.2.2.2.2)) ([], [], [], [], Int.ofNat 0) fun r => some (r, 0)) (fun _ d => OvI b d)
      (fun g i d h hi => ⟨by
       obtain ⟨e0, h1, h2⟩ := hi.at hk h
       unfold zn
       simp only [dlt h, dge, gAt h, cond_true]
       rw [ak (wI hN hls _), e0]
       have hp : overS (bJ b n).1 moved done d (bJ b n).1.2.2.2.1[i] = d.set (gK (bJ b n).1.2.2.2.1[i].1 d).toNat (jb (bJ b n).1 moved done (bJ b n).1.2.2.2.1[i] (d.getD (gK (bJ b n).1.2.2.2.1[i].1 d).toNat az)) := rfl
       simp only [decide_eq_true h1, decide_eq_true h2, cond_true]
       rw [ak (adG _ ((bJ b n).1.1, (bJ b n).1.2.1, (bJ b n).1.2.2.1, (bJ b n).1.2.2.2.1, (bJ b n).1.2.2.2.2.1, (bJ b n).1.2.2.2.2.2) _ _ _), wrS (show i ≤ 1000000000000000000 by omega), hp]
       rfl, fun st' hs => by
       cases hs
       exact hi.step _ _ _ _⟩) (fun g d hd => by
       unfold zn
       have ew : IntKind.i64.wrap (partAt b n + 1) = partAt b n + 1 := wr (by omega) (by omega)
       have et : (partAt b n + 1).toNat = (partAt b n).toNat + 1 := by omega
       simp only [di, cond_false, h1, ew, decide_eq_true (show partAt b n ≤ (b.2.2.2.1.length : Int) by omega), decide_eq_true (show (0 : Int) ≤ partAt b n + 1 by omega), decide_eq_true (show partAt b n + 1 ≤ (b.2.2.2.1.length : Int) by omega), decide_eq_true (show (b.2.2.2.1.length : Int) ≤ (b.2.2.2.1.length : Int) by omega), cond_true]
       rw [decide_eq_true (by simp; omega), decide_eq_true (by simp; omega), cond_true, cond_true]
       have ee : [] ++ List.drop (Int.toNat 0) (List.take (partAt b n).toNat b.2.2.2.1) ++ List.drop (partAt b n + 1).toNat (List.take (b.2.2.2.1.length : Int).toNat b.2.2.2.1) = b.2.2.2.1.eraseIdx (partAt b n).toNat := by
        rw [et, List.eraseIdx_eq_take_drop_succ]
        simp
       rw [ee]) N (by omega) b.2.1 ⟨rfl, hb.2.1.2⟩
     refine this.trans ?_
     rw [nH]
     exact ak (oU hN (aoT hb n moved done))
theorem P5 {N : Nat} (hN : lim < N) {b : Book} (hb : smB b) (n moved : Int) (done : Bool) : abZ N b n moved done = some (jT b n moved done) := by
 have hlim := aQ
 have hlp := hb.2.2.2.1
 have hls := hb.2.1.1
 unfold abZ acU jT
 rw [ak (jm hN hb)]
 cases hbk : aS b with
 | false => rfl
 | true =>
  simp only [Bool.not_true, cond_false, cond_true]
  rw [ak (xA hN hb), ak (yT hN hb n)]
  by_cases h : partAt b n < 0
  ·simp only [decide_eq_true h]; rfl
  ·have h0 : 0 ≤ partAt b n := by omega
   have h1 : decide (0 ≤ partAt b n) = true := decide_eq_true h0
   have hlt := kQ h0
   have h2 : decide (partAt b n < (b.2.2.2.1.length : Int)) = true := decide_eq_true hlt
   have hx : bJ b n ∈ b.2.2.2.1 := CE h0
   have hw : smW (bJ b n).1 := hb.2.2.2.2 _ hx
   have hk := (vT hbk hx).2
   have hu := hw.2.1.1
   simp only [decide_eq_false h, h1, h2, cond_false, cond_true]
   rw [show b.2.2.2.1.getD (partAt b n).toNat bC = bJ b n from rfl]
   unfold jD
   cases decide (moved < 0) with
   | true => rfl
   | false =>
    simp only [cond_false, Bool.not_false, Bool.true_and]
    refine (bU (bJ b n).1.2.2.2.1 _ (fun _ u => sK moved u) (some (b, 2)) (bif !(bJ b n).2 then some (b, 12) else some (Bh b n moved done, 0)) (fun g i hi => ?_) (fun g => ?_) N (by omega)).trans ?_
    ·unfold ET sK
     simp only [dlt hi, dge, gAt hi, cond_true, wrS (show i ≤ 1000000000000000000 by omega)]
     cases (bJ b n).1.2.2.2.1[i].2.1 != 3 <;> cases decide (moved > (bJ b n).1.2.2.2.1[i].2.2) <;> rfl
    ·unfold ET
     have ew : IntKind.i64.wrap (partAt b n + 1) = partAt b n + 1 := wr (by omega) (by omega)
     simp only [di, cond_false, h1, h2, ew, cond_true, decide_true, show b.2.2.2.1.getD (partAt b n).toNat bC = bJ b n from rfl]
     cases (bJ b n).2 with
     | false => rfl
     | true =>
      simp only [Bool.not_true, cond_false]
      have := eQ (bJ b n).1.2.2.2.1 (fun (g : Int → List aP → Option (Book × Int)) i (d : List aP) => g (i : Int) d) (fun _ _ => none)
       (fun next => yR N moved done b 0 (bJ b n).1.1 (bJ b n).1.2.1 (bJ b n).1.2.2.1 (bJ b n).1.2.2.2.1 (bJ b n).1.2.2.2.2.1 (bJ b n).1.2.2.2.2.2 ((bJ b n).1.2.2.2.1.length : Int) [] [] [] [] (b.2.2.2.1.eraseIdx (partAt b n).toNat) next)
       (fun _ d u => .inl (overS (bJ b n).1 moved done d u)) (fun d => some ((b.1, d, b.2.2.1, b.2.2.2.1.eraseIdx (partAt b n).toNat, b.2.2.2.2), 0)) (fun _ d => OvI b d)
       (fun g i d h hi => ⟨by
        obtain ⟨e0, h1, h2⟩ := hi.at hk h
        have hld : d.length ≤ 1048576 := by rw [hi.len]; exact hls
        unfold yR
        simp only [dlt h, dge, gAt h, cond_true]
        rw [ak (show zx N (b.1, d, b.2.2.1, b.2.2.2.1.eraseIdx (partAt b n).toNat, b.2.2.2.2) (bJ b n).1.2.2.2.1[i].1 = some (gK (bJ b n).1.2.2.2.1[i].1 d) from vZ hN (b := (b.1, d, b.2.2.1, b.2.2.2.1.eraseIdx (partAt b n).toNat, b.2.2.2.2)) hld _)]
        have hp : overS (bJ b n).1 moved done d (bJ b n).1.2.2.2.1[i] = d.set (gK (bJ b n).1.2.2.2.1[i].1 d).toNat (jb (bJ b n).1 moved done (bJ b n).1.2.2.2.1[i] (d.getD (gK (bJ b n).1.2.2.2.1[i].1 d).toNat az)) := rfl
        obtain ⟨k, ek⟩ : ∃ k : Nat, gK (bJ b n).1.2.2.2.1[i].1 d = (k : Int) := ⟨_, (Int.toNat_of_nonneg h1).symm⟩
        rw [ek] at h1 h2 hp ⊢
        rw [Int.toNat_natCast] at hp
        have hkd : k < d.length := by omega
        simp only [dlt hkd, dge, cond_true, List.length_set, rP, sAt, wrA, wrD, wrS (show i ≤ 1000000000000000000 by omega), gS' hkd, sS']
        rw [hp]
        unfold jb
        have z1 : ∀ a c : Int, a + (c - moved) = a + c - moved := fun a c => by omega
        have z2 : ∀ a c : Int, a - (c - moved) = a - c + moved := fun a c => by omega
        simp only [z1, z2]
        have hself : d = d.set k (d.getD k az) := by
         rw [List.getD_eq_getElem?_getD, List.getElem?_eq_getElem hkd, Option.getD_some, List.set_getElem_self]
        by_cases r1 : (bJ b n).1.2.2.2.1[i].2.1 = 1
        ·have q1 : ((bJ b n).1.2.2.2.1[i].2.1 == 1) = true := by rw [r1]; rfl
         have q2 : ((bJ b n).1.2.2.2.1[i].2.1 == 2) = false := by rw [r1]; rfl
         simp only [q1, q2, cond_true, cond_false]
         cases (bJ b n).1.2.1 == 2 <;> cases done <;> rfl
        ·have q1 : ((bJ b n).1.2.2.2.1[i].2.1 == 1) = false := beq_eq_false_iff_ne.2 r1
         simp only [q1, cond_false]
         cases q2 : (bJ b n).1.2.2.2.1[i].2.1 == 2
         ·simp only [cond_false]
          cases (bJ b n).1.2.1 == 2 <;> cases done
          ·exact congrArg (g _) hself
          ·exact congrArg (g _) hself
          ·exact congrArg (g _) hself
          ·rfl
         ·simp only [cond_true]
          cases (bJ b n).1.2.1 == 2 <;> cases done <;> rfl, fun st' hs => by
        cases hs
        exact hi.step _ _ _ _⟩) (fun g d hd => by
        unfold yR
        rw [di]; rfl) N (by omega) b.2.1 ⟨rfl, hb.2.1.2⟩
      refine this.trans ?_
      rw [nH]
      rfl
    ·rw [Qs]
     cases (bJ b n).1.2.2.2.1.all (sK moved) <;> cases (bJ b n).2 <;> rfl
end Go.MC
namespace Go.MC
open Go.MC.F
def kM (b : Book) (n : Int) : List Part := b.2.2.2.1.set (Int.toNat (partAt b n)) ((b.2.2.2.1.getD (Int.toNat (partAt b n)) bC).1, true)
def kC (b : Book) (n : Int) : Book × Int :=
 bif aS b then (bif decide (partAt b n < 0) then (b, 3) else ((b.1, b.2.1, b.2.2.1, kM b n, b.2.2.2.2), 0)) else (([], [], [], [], 0), 1)
theorem afe {N : Nat} (hN : lim < N) {b : Book} (hb : smB b) (n : Int) : acV N b n = some (kC b n) := by
 unfold acV kC
 rw [ak (jr hN hb)]
 cases aS b with
 | false => rfl
 | true =>
  simp only [Bool.not_true, cond_false, cond_true]
  rw [ak (oU hN hb), ak (Og hN hb n)]
  by_cases h : partAt b n < 0
  ·simp only [decide_eq_true h]; rfl
  ·have h1 : decide (0 ≤ partAt b n) = true := decide_eq_true (by omega)
   have h2 : decide (partAt b n < (b.2.2.2.1.length : Int)) = true := decide_eq_true (kQ (by omega))
   simp only [decide_eq_false h, h1, h2, cond_false, cond_true]
   rfl
theorem aku {N : Nat} (hN : lim < N) {b : Book} (hb : smB b) (n : Int) : adC N b n = some (kC b n) := by
 unfold adC kC
 rw [ak (jm hN hb)]
 cases aS b with
 | false => rfl
 | true =>
  simp only [Bool.not_true, cond_false, cond_true]
  rw [ak (xA hN hb), ak (yT hN hb n)]
  by_cases h : partAt b n < 0
  ·simp only [decide_eq_true h]; rfl
  ·have h1 : decide (0 ≤ partAt b n) = true := decide_eq_true (by omega)
   have h2 : decide (partAt b n < (b.2.2.2.1.length : Int)) = true := decide_eq_true (kQ (by omega))
   simp only [decide_eq_false h, h1, h2, cond_false, cond_true]
   rfl
end Go.MC
namespace Go.MC
open Go.MC.F
def ul (b : Book) (w : Want) : Prop := w.1 ≤ b.2.2.2.2 ∧ dC w = true ∧ dG b w = true ∧ ∀ u ∈ w.2.2.2.1, lY (bG b u.1) w u = true
def apart (v w : Want) : Prop := v.1 < w.1 ∧ share w v = false ∧ cross w v = false
structure OkB (b : Book) : Prop where
 foes : ui b = true
 valves : dO b.2.2.1 12 = true
 seen : 0 ≤ b.2.2.2.2 ∧ b.2.2.2.2 ≤ 1000000
 sl : b.2.1.length ≤ 8
 so : ∀ s ∈ b.2.1, gJ b s = true
 sa : Asc (b.2.1.map (·.1))
 pl : b.2.2.2.1.length ≤ 6
 po : ∀ w ∈ b.2.2.2.1.map (·.1), ul b w
 pp : (b.2.2.2.1.map (·.1)).Pairwise apart
theorem FV {b : Book} {p : Part} : lu b p = true ↔ ul b p.1 := by
 unfold lu ul
 simp only [Bool.and_eq_true, Bool.not_eq_true', decide_eq_false_iff_not, List.all_eq_true]
 constructor
 ·rintro ⟨h1, h2, h3, h4⟩; exact ⟨by omega, h2, h3, h4⟩
 ·rintro ⟨h1, h2, h3, h4⟩; exact ⟨by omega, h2, h3, h4⟩
theorem TJ {α : Type} {R : α → α → Prop} (ht : ∀ a b c, R a b → R b c → R a c) {l : List α} (h : ∀ j (hj : j + 1 < l.length), R (l[j]'(by omega)) l[j + 1]) : l.Pairwise R := by
 have h4 : ∀ (k i : Nat) (hj : i + k + 1 < l.length), R (l[i]'(by omega)) l[i + k + 1] := by
  intro k
  induction k with
  | zero => intro i hj; exact h i (by omega)
  | succ k ih =>
   intro i hj
   exact ht _ _ _ (ih i (by omega)) (h (i + (k + 1)) (by omega))
 refine List.pairwise_iff_getElem.2 fun i j hi hj hij => ?_
 have := h4 (j - i - 1) i (by omega)
 simpa only [show i + (j - i - 1) + 1 = j by omega] using this
theorem getD_at {α : Type} {l : List α} {i : Nat} (h : i < l.length) (d : α) : l.getD i d = l[i] := by
 rw [List.getD_eq_getElem?_getD, List.getElem?_eq_getElem h]; rfl
theorem dX {b : Book} : aS b = true ↔ OkB b := by
 constructor
 ·intro h
  simp only [aS, qF, jH, Bool.and_eq_true, Bool.not_eq_true', decide_eq_false_iff_not] at h
  obtain ⟨h1, h2, h3, ⟨h4, h5⟩, h6, h7⟩ := h
  have hs : ∀ i (hi : i < b.2.1.length), iT b i b.2.1[i] = true := fun i hi => by
   have := dR.1 h5 i b.2.1[i] (by simp [hi])
   simpa using this
  have hp : ∀ i (hi : i < b.2.2.2.1.length), jO b i b.2.2.2.1[i] = true := fun i hi => by
   have := dR.1 h7 i b.2.2.2.1[i] (by simp [hi])
   simpa using this
  refine ⟨h1, h2, ?_, by omega, fun s hm => ?_, ?_, by omega, fun w hw => ?_, ?_⟩
  ·simp only [inB, Bool.and_eq_true, decide_eq_true_eq] at h3
   omega
  ·obtain ⟨i, hi, e⟩ := List.mem_iff_getElem.1 hm
   have := hs i hi
   simp only [iT, Bool.and_eq_true] at this
   rw [← e]; exact this.1
  ·refine TJ (R := fun a b : Txt => Op.bytesLess a b = true) (fun a b c h1 h2 => gY h1 h2) fun j hj => ?_
   rw [List.length_map] at hj
   have := hs (j + 1) hj
   simp only [iT, Bool.and_eq_true, Bool.or_eq_true, beq_iff_eq] at this
   rcases this.2 with h0 | h0
   ·omega
   ·rw [show j + 1 - 1 = j by omega, getD_at (show j < b.2.1.length by omega)] at h0
    simpa using h0
  ·obtain ⟨p, hm, rfl⟩ := List.mem_map.1 hw
   obtain ⟨i, hi, e⟩ := List.mem_iff_getElem.1 hm
   have := hp i hi
   simp only [jO, Bool.and_eq_true] at this
   rw [← e]; exact FV.1 this.1
  ·have hn : (b.2.2.2.1.map (·.1)).Pairwise fun v w => v.1 < w.1 := by
    refine TJ (R := fun v w : Want => v.1 < w.1) (fun a b c h1 h2 => Int.lt_trans h1 h2) fun j hj => ?_
    rw [List.length_map] at hj
    have := hp (j + 1) hj
    simp only [jO, Bool.and_eq_true, Bool.or_eq_true, beq_iff_eq, Bool.not_eq_true', decide_eq_false_iff_not] at this
    rcases this.2.1 with h0 | h0
    ·omega
    ·rw [show j + 1 - 1 = j by omega, getD_at (show j < b.2.2.2.1.length by omega)] at h0
     simp only [List.getElem_map]
     omega
   refine List.pairwise_iff_getElem.2 fun i j hi hj hij => ?_
   have hn' := List.pairwise_iff_getElem.1 hn i j hi hj hij
   refine ⟨hn', ?_⟩
   simp only [List.length_map] at hi hj
   have := hp j hj
   simp only [jO, Bool.and_eq_true] at this
   have h8 := List.all_eq_true.1 this.2.2 b.2.2.2.1[i] (List.mem_iff_getElem.2 ⟨i, by simp; omega, by simp⟩)
   simp only [Bool.and_eq_true, Bool.not_eq_true'] at h8
   simpa using h8
 ·intro h
  obtain ⟨h1, h2, h3, h4, h5, h6, h7, h8, h9⟩ := h
  simp only [aS, qF, jH, Bool.and_eq_true, Bool.not_eq_true', decide_eq_false_iff_not]
  refine ⟨h1, h2, ?_, ⟨by omega, ?_⟩, by omega, ?_⟩
  ·simp only [inB, Bool.and_eq_true, decide_eq_true_eq]; omega
  ·refine dR.2 fun j s hj => ?_
   obtain ⟨hj', e⟩ := List.getElem?_eq_some_iff.1 hj
   simp only [iT, Nat.zero_add, Bool.and_eq_true, Bool.or_eq_true, beq_iff_eq]
   refine ⟨h5 s (List.mem_of_getElem? hj), ?_⟩
   cases j with
   | zero => exact .inl rfl
   | succ j =>
    refine .inr ?_
    rw [show j + 1 - 1 = j by omega, getD_at (show j < b.2.1.length by omega), ← e]
    have := List.pairwise_iff_getElem.1 h6 j (j + 1) (by simp; omega) (by simp; omega) (by omega)
    simpa using this
  ·refine dR.2 fun j p hj => ?_
   obtain ⟨hj', e⟩ := List.getElem?_eq_some_iff.1 hj
   have hlt : ∀ i (hi : i < j), apart (b.2.2.2.1[i]'(by omega)).1 p.1 := fun i hi => by
    have := List.pairwise_iff_getElem.1 h9 i j (by simp; omega) (by simp; omega) hi
    simpa [e] using this
   simp only [jO, Nat.zero_add, Bool.and_eq_true, Bool.or_eq_true, beq_iff_eq, Bool.not_eq_true', decide_eq_false_iff_not]
   refine ⟨FV.2 (h8 _ (List.mem_map.2 ⟨p, List.mem_of_getElem? hj, rfl⟩)), ?_, ?_⟩
   ·cases j with
    | zero => exact .inl rfl
    | succ j =>
     refine .inr ?_
     rw [show j + 1 - 1 = j by omega, getD_at (show j < b.2.2.2.1.length by omega)]
     have := (hlt j (by omega)).1
     omega
   ·refine List.all_eq_true.2 fun q hq => ?_
    obtain ⟨i, hi, e2⟩ := List.mem_iff_getElem.1 hq
    simp only [List.length_take] at hi
    have := hlt i (by omega)
    rw [← e2]
    simp only [List.getElem_take]
    rw [this.2.1, this.2.2]; rfl
end Go.MC
namespace Go.MC
open Go.MC.F
theorem xR {α : Type} {p : α → Bool} : ∀ {l : List α} {i : Nat}, 0 ≤ fP p i l → ∃ j, ∃ hj : j < l.length, fP p i l = ((i + j : Nat) : Int) ∧ p l[j] = true
 | [], i, h => by simp [fP] at h
 | x :: xs, i, h => by
  simp only [fP] at h ⊢
  cases hx : p x with
  | true => exact ⟨0, by simp, by simp, by simpa using hx⟩
  | false =>
   rw [hx] at h
   obtain ⟨j, hj, e1, e2⟩ := xR (l := xs) (i := i + 1) h
   exact ⟨j + 1, by simpa using hj, by rw [cond_false, e1]; omega, by simpa using e2⟩
theorem QY {α : Type} {p : α → Bool} {l : List α} {i : Nat} {x : α} (hx : x ∈ l) (hp : p x = true) : 0 ≤ fP p i l := by
 have := fC p l i
 rw [List.any_eq_true.2 ⟨x, hx, hp⟩] at this
 exact of_decide_eq_true this
theorem Xo {α : Type} {f : α → Txt} {l : List α} (h : Asc (l.map f)) {i j : Nat} (hi : i < l.length) (hj : j < l.length) (e : f l[i] = f l[j]) : i = j := by
 have h2 := List.pairwise_iff_getElem.1 h
 rcases Nat.lt_trichotomy i j with c | c | c
 ·have := h2 i j (by simpa using hi) (by simpa using hj) c
  simp only [List.getElem_map] at this
  rw [e, ed] at this; cases this
 ·exact c
 ·have := h2 j i (by simpa using hj) (by simpa using hi) c
  simp only [List.getElem_map] at this
  rw [e, ed] at this; cases this
theorem ZN {sp : List aP} {n : Txt} (h : n ∈ sp.map (·.1)) : ∃ k, ∃ hk : k < sp.length, gK n sp = (k : Int) ∧ sp[k].1 = n := by
 obtain ⟨s, hs, e⟩ := List.mem_map.1 h
 obtain ⟨j, hj, e1, e2⟩ := xR (p := fun s : aP => s.1 == n) (l := sp) (i := 0) (QY hs (by simpa using e))
 exact ⟨j, hj, by unfold gK; rw [e1]; omega, by simpa using e2⟩
theorem zC {b : Book} (ha : Asc (b.2.1.map (·.1))) {s : aP} (hs : s ∈ b.2.1) : bG b s.1 = s := by
 obtain ⟨k, hk, e1, e2⟩ := ZN (List.mem_map.2 ⟨s, hs, rfl⟩)
 obtain ⟨j, hj, e⟩ := List.mem_iff_getElem.1 hs
 have : k = j := Xo ha hk hj (by rw [e2, e])
 subst this
 unfold bG
 rw [show atB b s.1 = (k : Int) from e1, Int.toNat_natCast, getD_at hk, e]
theorem nC {b : Book} {n : Txt} (h : 0 ≤ atB b n) : bG b n ∈ b.2.1 ∧ (bG b n).1 = n := by
 obtain ⟨j, hj, e1, e2⟩ := xR (p := fun s : aP => s.1 == n) (l := b.2.1) (i := 0) h
 have e : bG b n = b.2.1[j] := by
  unfold bG
  rw [show atB b n = ((0 + j : Nat) : Int) from e1, Int.toNat_natCast, Nat.zero_add, getD_at hj]
 rw [e]
 exact ⟨List.getElem_mem hj, by simpa using e2⟩
theorem at_mem {b : Book} {n : Txt} : 0 ≤ atB b n ↔ n ∈ b.2.1.map (·.1) := by
 constructor
 ·intro h
  exact List.mem_map.2 ⟨_, (nC h).1, (nC h).2⟩
 ·intro h
  obtain ⟨s, hs, e⟩ := List.mem_map.1 h
  exact QY hs (by simpa using e)
def upd (f : Use → aP → aP) (sp : List aP) (u : Use) : List aP := sp.set (gK u.1 sp).toNat (f u (sp.getD (gK u.1 sp).toNat az))
def turn {β : Type} (f : Use → Txt × β → Txt × β) (us : List Use) (s : Txt × β) : Txt × β := us.foldl (fun s u => bif s.1 == u.1 then f u s else s) s
theorem aqP {f : Use → aP → aP} {sp : List aP} (ha : Asc (sp.map (·.1))) {u : Use} (hu : u.1 ∈ sp.map (·.1)) : upd f sp u = sp.map fun s => bif s.1 == u.1 then f u s else s := by
 obtain ⟨k, hk, e1, e2⟩ := ZN hu
 unfold upd
 rw [e1, Int.toNat_natCast, getD_at hk]
 refine List.ext_getElem (by simp) fun i h1 h2 => ?_
 simp only [List.length_set] at h1
 rw [List.getElem_set, List.getElem_map]
 by_cases hki : k = i
 ·subst hki
  rw [if_pos rfl, e2]; simp
 ·rw [if_neg hki]
  have : (sp[i].1 == u.1) = false := beq_eq_false_iff_ne.2 fun e => hki (Xo ha hk h1 (by rw [e2, e]))
  rw [this]; rfl
theorem Gy {f : Use → aP → aP} (hf : ∀ u s, (f u s).1 = s.1) : ∀ (us : List Use) {sp : List aP}, Asc (sp.map (·.1)) → (∀ u ∈ us, u.1 ∈ sp.map (·.1)) → us.foldl (upd f) sp = sp.map (turn f us)
 | [], sp, _, _ => by
  rw [show turn f [] = id from rfl]; simp
 | u :: us, sp, ha, hu => by
  have e := aqP (f := f) ha (hu u (by simp))
  have hn : (upd f sp u).map (·.1) = sp.map (·.1) := by
   rw [e, List.map_map]
   refine List.map_congr_left fun s _ => ?_
   simp only [Function.comp]
   cases s.1 == u.1
   ·rfl
   ·exact hf u s
  rw [List.foldl_cons, Gy hf us (by rw [hn]; exact ha) (fun v hv => by rw [hn]; exact hu v (by simp [hv])), e, List.map_map]
  rfl
theorem kR {β : Type} {f : Use → Txt × β → Txt × β} (hf : ∀ u s, (f u s).1 = s.1) : ∀ (us : List Use) (s : Txt × β), (turn f us s).1 = s.1
 | [], s => rfl
 | u :: us, s => by
  show (turn f us (bif s.1 == u.1 then f u s else s)).1 = _
  rw [kR hf us]
  cases s.1 == u.1
  ·rfl
  ·exact hf u s
theorem tX {β : Type} {f : Use → Txt × β → Txt × β} : ∀ {us : List Use} {s : Txt × β}, (∀ u ∈ us, u.1 ≠ s.1) → turn f us s = s
 | [], s, _ => rfl
 | u :: us, s, h => by
  show turn f us (bif s.1 == u.1 then f u s else s) = _
  have : (s.1 == u.1) = false := beq_eq_false_iff_ne.2 fun e => h u (by simp) e.symm
  rw [this]
  exact tX fun v hv => h v (by simp [hv])
theorem Ea {β : Type} {f : Use → Txt × β → Txt × β} (hf : ∀ u s, (f u s).1 = s.1) : ∀ {us : List Use} {s : Txt × β} {u : Use}, Asc (us.map (·.1)) → u ∈ us → u.1 = s.1 → turn f us s = f u s
 | v :: us, s, u, ha, hu, e => by
  obtain ⟨h1, h2⟩ := List.pairwise_cons.1 ha
  show turn f us (bif s.1 == v.1 then f v s else s) = _
  rcases List.mem_cons.1 hu with rfl | hu
  ·have : (s.1 == u.1) = true := by simp [e]
   rw [this, cond_true]
   refine tX fun w hw e2 => ?_
   have := h1 w.1 (List.mem_map.2 ⟨w, hw, rfl⟩)
   rw [e2, hf, ← e, ed] at this
   cases this
  ·have : (s.1 == v.1) = false := beq_eq_false_iff_ne.2 fun e2 => by
    have := h1 u.1 (List.mem_map.2 ⟨u, hu, rfl⟩)
    rw [e, e2, ed] at this
    cases this
   rw [this, cond_false]
   exact Ea hf h2 hu e
theorem Il {w : Want} (h : dC w = true) : Asc (w.2.2.2.1.map (·.1)) := by
 simp only [dC, pR, Bool.and_eq_true] at h
 have h2 := dR.1 h.2.2.1.2
 refine TJ (R := fun a b : Txt => Op.bytesLess a b = true) (fun a b c h1 h2 => gY h1 h2) fun j hj => ?_
 rw [List.length_map] at hj
 have := h2 (j + 1) w.2.2.2.1[j + 1] (by simp [hj])
 simp only [tH, Nat.zero_add, Bool.and_eq_true, Bool.or_eq_true, beq_iff_eq] at this
 rcases this.2.1 with h0 | h0
 ·omega
 ·rw [show j + 1 - 1 = j by omega, getD_at (show j < w.2.2.2.1.length by omega)] at h0
  simpa using h0
theorem NF {w : Want} (h : dC w = true) {u : Use} (hu : u ∈ w.2.2.2.1) : (u.2.1 = 3 ∧ u.2.2 = 0) ∨ ((u.2.1 = 1 ∨ u.2.1 = 2) ∧ w.2.1 = 1 ∧ 1 ≤ u.2.2 ∧ u.2.2 ≤ 1000) := by
 simp only [dC, pR, Bool.and_eq_true] at h
 obtain ⟨i, hi⟩ := List.getElem?_of_mem hu
 have := dR.1 h.2.2.1.2 i u hi
 simp only [tH, Nat.zero_add, Bool.and_eq_true, inB, decide_eq_true_eq] at this
 obtain ⟨_, _, ⟨h1, h2⟩, h3⟩ := this
 by_cases h4 : u.2.1 = 3
 ·rw [h4] at h3
  exact .inl ⟨h4, by simpa using h3⟩
 ·rw [beq_eq_false_iff_ne.2 h4, cond_false] at h3
  simp only [Bool.and_eq_true, beq_iff_eq, decide_eq_true_eq] at h3
  exact .inr ⟨by omega, h3.1, h3.2.1, h3.2.2⟩
theorem gm {b : Book} {s : aP} : gJ b s = true ↔ jh s.1 = true ∧ (0 ≤ s.2.1 ∧ s.2.1 ≤ 1000) ∧ (0 ≤ s.2.2.1 ∧ s.2.2.1 ≤ s.2.2.2.1 ∧ s.2.2.2.1 ≤ s.2.1) ∧ dO s.2.2.2.2 8 = true ∧ clash b s.2.2.2.2 s.2.2.2.2 = false := by
 unfold gJ inB
 simp only [Bool.and_eq_true, decide_eq_true_eq, Bool.not_eq_true', decide_eq_false_iff_not]
 constructor
 ·rintro ⟨h1, h2, h3, h4, h5, h6⟩; exact ⟨h1, by omega, by omega, h5, h6⟩
 ·rintro ⟨h1, h2, h3, h5, h6⟩; exact ⟨h1, by omega, by omega, by omega, h5, h6⟩
theorem uI {s : aP} {w : Want} {u : Use} : lY s w u = true ↔ (w.2.1 = 2 → s.2.2.2.1 ≤ 0) ∧ (w.2.1 = 1 → u.2.1 ≠ 2 → ∀ x ∈ s.2.2.2.2, x ∈ w.2.2.1) ∧ (w.2.1 = 1 → u.2.1 ≠ 1 → ∀ x ∈ w.2.2.1, x ∈ s.2.2.2.2) ∧ IntKind.i64.wrap (s.2.2.1 + u.2.2) ≤ s.2.2.2.1 := by
 unfold lY
 simp only [Bool.and_eq_true, Bool.not_eq_true', Bool.and_eq_false_iff, decide_eq_true_eq, decide_eq_false_iff_not, beq_eq_false_iff_ne, Bool.not_eq_false', beq_iff_eq, List.all_eq_true, List.contains_iff_mem]
 constructor
 ·rintro ⟨h1, h2, h3, h4⟩
  refine ⟨fun e => ?_, fun e n => ?_, fun e n => ?_, h4⟩
  ·rcases h1 with h | h
   ·exact absurd e h
   ·omega
  ·rcases h2 with h | h | h
   ·exact absurd e h
   ·exact absurd h n
   ·exact h
  ·rcases h3 with h | h | h
   ·exact absurd e h
   ·exact absurd h n
   ·exact h
 ·rintro ⟨h1, h2, h3, h4⟩
  refine ⟨?_, ?_, ?_, h4⟩
  ·by_cases e : w.2.1 = 2
   ·exact .inr (by have := h1 e; omega)
   ·exact .inl e
  ·by_cases e : w.2.1 = 1
   ·by_cases n : u.2.1 = 2
    ·exact .inr (.inl n)
    ·exact .inr (.inr (h2 e n))
   ·exact .inl e
  ·by_cases e : w.2.1 = 1
   ·by_cases n : u.2.1 = 1
    ·exact .inr (.inl n)
    ·exact .inr (.inr (h3 e n))
   ·exact .inl e
theorem DC {b c : Book} (hn : c.2.1.map (·.1) = b.2.1.map (·.1)) (hv : c.2.2.1 = b.2.2.1) (w : Want) : dG c w = dG b w := by
 unfold dG
 rw [hv, show (fun u : Use => !decide (atB c u.1 < 0)) = fun u => !decide (atB b u.1 < 0) from funext fun u => by rw [show atB c u.1 = atB b u.1 from wP hn u.1]]
theorem yh {b : Book} {w : Want} (h : dG b w = true) {u : Use} (hu : u ∈ w.2.2.2.1) : 0 ≤ atB b u.1 := by
 simp only [dG, Bool.and_eq_true] at h
 have := List.all_eq_true.1 h.1 u hu
 simp only [Bool.not_eq_true', decide_eq_false_iff_not] at this
 omega
theorem Gl {b c : Book} {g : aP → aP} (hg : ∀ s, (g s).1 = s.1) (hc : c.2.1 = b.2.1.map g) (ha : Asc (b.2.1.map (·.1))) {n : Txt} (h : 0 ≤ atB b n) : bG c n = g (bG b n) := by
 obtain ⟨h1, h2⟩ := nC h
 have hn : c.2.1.map (·.1) = b.2.1.map (·.1) := by
  rw [hc, List.map_map]; exact List.map_congr_left fun s _ => hg s
 have hm : g (bG b n) ∈ c.2.1 := by rw [hc]; exact List.mem_map.2 ⟨_, h1, rfl⟩
 have := zC (by rw [hn]; exact ha) hm
 rwa [hg, h2] at this
theorem MM {v w : Want} (h : share w v = false) {u : Use} (hu : u ∈ v.2.2.2.1) : ∀ x ∈ w.2.2.2.1, x.1 ≠ u.1 := by
 intro x hx e
 unfold share at h
 have := List.any_eq_false.1 h x hx
 exact this (List.any_eq_true.2 ⟨u, hu, by simpa using e⟩)
theorem DK {b c : Book} {f : Use → aP → aP} (hf : ∀ u s, (f u s).1 = s.1) {us : List Use} (hc : c.2.1 = b.2.1.map (turn f us)) (hv : c.2.2.1 = b.2.2.1) (ha : Asc (b.2.1.map (·.1))) {v : Want} (h : ul b v) (hs : v.1 ≤ c.2.2.2.2)
 (hn : ∀ u ∈ v.2.2.2.1, ∀ x ∈ us, x.1 ≠ u.1) : ul c v := by
 obtain ⟨h1, h2, h3, h4⟩ := h
 have hnm : c.2.1.map (·.1) = b.2.1.map (·.1) := by
  rw [hc, List.map_map]; exact List.map_congr_left fun s _ => kR hf us s
 refine ⟨hs, h2, by rw [DC hnm hv]; exact h3, fun u hu => ?_⟩
 have h0 := yh h3 hu
 rw [Gl (kR hf us) hc ha h0, tX fun x hx => by rw [(nC h0).2]; exact hn u hu x hx]
 exact h4 u hu
theorem an4 {b : Book} {n : Int} (h : aS b = true) : aS (kC b n).1 = true := by
 unfold kC
 rw [h, cond_true]
 by_cases hp : partAt b n < 0
 ·rw [decide_eq_true hp, cond_true]; exact h
 ·rw [decide_eq_false hp, cond_false]
  have o := dX.1 h
  have e : (kM b n).map (·.1) = b.2.2.2.1.map (·.1) := by
   unfold kM
   exact qB _ fun hk => by rw [getD_at hk]
  refine dX.2 ⟨o.foes, o.valves, o.seen, o.sl, o.so, o.sa, ?_, ?_, ?_⟩
  ·show (kM b n).length ≤ 6
   have := congrArg List.length e
   simp only [List.length_map] at this
   rw [this]; exact o.pl
  ·show ∀ w ∈ (kM b n).map (·.1), _
   rw [e]; exact o.po
  ·show ((kM b n).map (·.1)).Pairwise _
   rw [e]; exact o.pp
theorem MN {α β : Type} (f : α → β) : ∀ (l : List α) (k : Nat), (l.eraseIdx k).map f = (l.map f).eraseIdx k
 | [], _ => rfl
 | _ :: _, 0 => rfl
 | x :: l, k + 1 => by simp only [List.eraseIdx_cons_succ, List.map_cons, MN f l k]
theorem pU (w : Want) (moved : Int) (done : Bool) (u : Use) (s : aP) : (jb w moved done u s).1 = s.1 := rfl
theorem aah {b : Book} {s : aP} {w : Want} {u : Use} {moved : Int} {done : Bool} (hs : gJ b s = true) (hw : dC w = true) (hu : u ∈ w.2.2.2.1) (hi : lY s w u = true) (hm : jD w moved = true) : gJ b (jb w moved done u s) = true := by
 obtain ⟨a1, a2, a3, a4, a5⟩ := gm.1 hs
 obtain ⟨i1, i2, i3, i4⟩ := uI.1 hi
 unfold jD at hm
 simp only [Bool.and_eq_true, Bool.not_eq_true', decide_eq_false_iff_not] at hm
 have hmv := List.all_eq_true.1 hm.2 u hu
 unfold sK at hmv
 have may : dO (jb w moved done u s).2.2.2.2 8 = true ∧ clash b (jb w moved done u s).2.2.2.2 (jb w moved done u s).2.2.2.2 = false := by
  unfold jb
  simp only
  cases w.2.1 == 2
  ·exact ⟨a4, a5⟩
  ·cases done
   ·exact ⟨a4, a5⟩
   ·refine ⟨rfl, ?_⟩
    unfold clash
    simp
 refine gm.2 ⟨a1, a2, ?_, may⟩
 unfold jb
 simp only
 rcases NF hw hu with ⟨e1, e2⟩ | ⟨e1, e2, e3, e4⟩
 ·rw [e1, show ((3 : Int) == 1) = false from rfl, show ((3 : Int) == 2) = false from rfl]
  exact a3
 ·have hmu : moved ≤ u.2.2 := by
   have : (u.2.1 != 3) = true := by rcases e1 with e | e <;> rw [e] <;> rfl
   rw [this] at hmv
   simp only [Bool.true_and, Bool.not_eq_true', decide_eq_false_iff_not] at hmv
   omega
  rw [wr (by omega) (by omega)] at i4
  rcases e1 with e | e
  ·rw [e, show ((1 : Int) == 1) = true from rfl]
   simp only [cond_true]
   rw [wr (by omega) (by omega), wr (by omega) (by omega)]
   omega
  ·rw [e, show ((2 : Int) == 1) = false from rfl, show ((2 : Int) == 2) = true from rfl]
   simp only [cond_true, cond_false]
   rw [wr (by omega) (by omega), wr (by omega) (by omega)]
   omega
theorem VK {b : Book} (o : OkB b) {w : Want} (hw : ul b w) (moved : Int) (done : Bool) : w.2.2.2.1.foldl (overS w moved done) b.2.1 = b.2.1.map (turn (jb w moved done) w.2.2.2.1) :=
 Gy (f := jb w moved done) (pU w moved done) w.2.2.2.1 o.sa fun u hu => at_mem.1 (yh hw.2.2.1 hu)
theorem acl {b : Book} {n moved : Int} {done : Bool} (h : aS b = true) (hp : 0 ≤ partAt b n) (hm : jD (bJ b n).1 moved = true) : aS (Bh b n moved done) = true := by
 have o := dX.1 h
 have hx := CE hp
 have hw := o.po _ (List.mem_map.2 ⟨_, hx, rfl⟩)
 have hlt := kQ hp
 have ex : (Bh b n moved done).2.1 = _ := VK o hw moved done
 have hk : (partAt b n).toNat < b.2.2.2.1.length := by omega
 have hxk : bJ b n = b.2.2.2.1[(partAt b n).toNat] := getD_at hk _
 have em : (b.2.2.2.1.eraseIdx (partAt b n).toNat).map (·.1) = (b.2.2.2.1.map (·.1)).eraseIdx (partAt b n).toNat := MN _ _ _
 refine dX.2 ⟨o.foes, o.valves, o.seen, ?_, ?_, ?_, ?_, ?_, ?_⟩
 ·rw [ex, List.length_map]; exact o.sl
 ·rw [ex]
  intro t ht
  obtain ⟨s, hs, rfl⟩ := List.mem_map.1 ht
  have hso := o.so s hs
  show gJ b _ = true
  by_cases hc : ∃ u ∈ (bJ b n).1.2.2.2.1, u.1 = s.1
  ·obtain ⟨u, hu, eu⟩ := hc
   rw [Ea (pU _ _ _) (Il hw.2.1) hu eu]
   have := hw.2.2.2 u hu
   rw [eu, zC o.sa hs] at this
   exact aah hso hw.2.1 hu this hm
  ·rw [tX fun u hu eu => hc ⟨u, hu, eu⟩]; exact hso
 ·rw [ex, List.map_map, show ((fun s : aP => s.1) ∘ turn (jb (bJ b n).1 moved done) (bJ b n).1.2.2.2.1) = fun s => s.1 from funext fun s => kR (pU _ _ _) _ s]
  exact o.sa
 ·exact Nat.le_trans (List.length_eraseIdx_le _ _) o.pl
 ·show ∀ v ∈ (b.2.2.2.1.eraseIdx (partAt b n).toNat).map (·.1), ul (Bh b n moved done) v
  rw [em]
  intro v hv
  obtain ⟨i, hi, hne, ev⟩ := List.mem_eraseIdx_iff_getElem.1 hv
  have hvm : v ∈ b.2.2.2.1.map (·.1) := by rw [← ev]; exact List.getElem_mem hi
  have hvw := o.po v hvm
  have hsh : share (bJ b n).1 v = false := by
   have hpw := List.pairwise_iff_getElem.1 o.pp
   have exm : (b.2.2.2.1.map (·.1))[(partAt b n).toNat]'(by simpa using hk) = (bJ b n).1 := by rw [List.getElem_map, hxk]
   rcases Nat.lt_or_gt_of_ne hne with c | c
   ·have := (hpw i (partAt b n).toNat hi (by simpa using hk) c).2.1
    rwa [exm, ev] at this
   ·have := (hpw (partAt b n).toNat i (by simpa using hk) hi c).2.1
    rwa [exm, ev, oG] at this
  exact DK (f := jb (bJ b n).1 moved done) (pU _ _ _) ex rfl o.sa hvw hvw.1 fun u hu => MM hsh hu
 ·show ((b.2.2.2.1.eraseIdx (partAt b n).toNat).map (·.1)).Pairwise _
  rw [em]
  exact o.pp.sublist (List.eraseIdx_sublist _ _)
theorem ZW {b : Book} {n moved : Int} {done : Bool} (h : aS b = true) : aS (jT b n moved done).1 = true := by
 unfold jT
 rw [h, cond_true]
 by_cases hp : partAt b n < 0
 ·rw [decide_eq_true hp, cond_true]; exact h
 ·rw [decide_eq_false hp, cond_false]
  cases hm : jD (bJ b n).1 moved with
  | false => exact h
  | true =>
   cases (bJ b n).2 with
   | false => exact h
   | true => exact acl h (by omega) hm
end Go.MC
namespace Go.MC
open Go.MC.F
theorem yQ {l : List Txt} {n : Int} : dO l n = true ↔ (l.length : Int) ≤ n ∧ (∀ x ∈ l, jh x = true) ∧ Asc l := by
 constructor
 ·intro h
  refine ⟨Zt h, fun x hx => ?_, XL h⟩
  unfold dO at h
  simp only [Bool.and_eq_true] at h
  obtain ⟨i, hi⟩ := List.getElem?_of_mem hx
  have := dR.1 h.2 i x hi
  simp only [Bool.and_eq_true] at this
  exact this.1
 ·rintro ⟨h1, h2, h3⟩
  unfold dO
  simp only [Bool.and_eq_true, Bool.not_eq_true', decide_eq_false_iff_not]
  refine ⟨by omega, dR.2 fun j x hj => ?_⟩
  obtain ⟨hj', e⟩ := List.getElem?_eq_some_iff.1 hj
  simp only [Bool.and_eq_true, Nat.zero_add, Jw, Bool.or_eq_true, beq_iff_eq]
  refine ⟨h2 x (List.mem_of_getElem? hj), ?_⟩
  cases j with
  | zero => exact .inl rfl
  | succ j =>
   refine .inr ?_
   rw [show j + 1 - 1 = j by omega, getD_at (show j < l.length by omega), ← e]
   exact List.pairwise_iff_getElem.1 h3 j (j + 1) (by omega) hj' (by omega)
theorem yP {b : Book} {x y : List Txt} : clash b x y = false ↔ ∀ f ∈ b.1, ¬ (f.1 ∈ x ∧ f.2 ∈ y) ∧ ¬ (f.2 ∈ x ∧ f.1 ∈ y) := by
 unfold clash
 rw [List.any_eq_false]
 refine ⟨fun h f hf => ?_, fun h f hf => ?_⟩
 ·have := h f hf
  simp only [Bool.or_eq_true, Bool.and_eq_true, List.contains_iff_mem, not_or] at this
  exact this
 ·have := h f hf
  simp only [Bool.or_eq_true, Bool.and_eq_true, List.contains_iff_mem, not_or]
  exact this
theorem GM {f : Use → Int} {l : List Use} (h : first f l = 0) : ∀ u ∈ l, f u = 0 := by
 intro u hu
 unfold first at h
 cases hf : l.find? fun u => f u != 0 with
 | none =>
  have := List.find?_eq_none.1 hf u hu
  simpa using this
 | some v =>
  have h2 := List.find?_some hf
  rw [hf] at h
  simp only [Option.map_some, Option.getD_some] at h
  rw [h] at h2
  cases h2
structure Free (b : Book) (w : Want) : Prop where
 ok : aS b = true
 wok : dC w = true
 kn : dG b w = true
 seen : b.2.2.2.2 < w.1
 six : b.2.2.2.1.length < 6
 sh : ∀ p ∈ b.2.2.2.1, share p.1 w = false
 cr : ∀ p ∈ b.2.2.2.1, cross p.1 w = false
 cl : clash b w.2.2.1 w.2.2.1 = false
 st : w.2.1 = 1 → ∀ u ∈ w.2.2.2.1, ja b w u = 0
 am : ∀ u ∈ w.2.2.2.1, iV b w u = 0
theorem acC {b : Book} {w : Want} (h : cO b w = 0) (hp : partAt b w.1 < 0) : Free b w := by
 unfold cO at h
 cases h1 : aS b with
 | false => rw [h1] at h; exact absurd h (by decide : ¬ (1 : Int) = 0)
 | true =>
 cases h2 : dC w with
 | false => rw [h1, h2] at h; exact absurd h (by decide : ¬ (2 : Int) = 0)
 | true =>
 cases h3 : dG b w with
 | false => rw [h1, h2, h3] at h; exact absurd h (by decide : ¬ (2 : Int) = 0)
 | true =>
 rw [h1, h2, h3, decide_eq_false (show ¬ partAt b w.1 ≥ 0 by omega)] at h
 simp only [Bool.not_true, cond_false] at h
 by_cases h4 : w.1 ≤ b.2.2.2.2
 ·rw [decide_eq_true h4] at h; exact absurd h (by decide : ¬ (4 : Int) = 0)
 rw [decide_eq_false h4, cond_false] at h
 by_cases h5 : (b.2.2.2.1.length : Int) ≥ 6
 ·rw [decide_eq_true h5] at h; exact absurd h (by decide : ¬ (5 : Int) = 0)
 rw [decide_eq_false h5, cond_false] at h
 cases h6 : b.2.2.2.1.any fun p => share p.1 w with
 | true => rw [h6] at h; exact absurd h (by decide : ¬ (6 : Int) = 0)
 | false =>
 cases h7 : b.2.2.2.1.any fun p => cross p.1 w with
 | true => rw [h6, h7] at h; exact absurd h (by decide : ¬ (7 : Int) = 0)
 | false =>
 rw [h6, h7] at h
 simp only [cond_false] at h
 have h8 : dU b w = 0 ∧ ik b w = 0 := by
  cases hs : dU b w != 0 with
  | true =>
   rw [hs, cond_true] at h
   rw [h] at hs; cases hs
  | false =>
   rw [hs, cond_false] at h
   exact ⟨by simpa using hs, h⟩
 obtain ⟨h8, h9⟩ := h8
 unfold dU at h8
 refine ⟨h1, h2, h3, by omega, by omega, fun p hq => ?_, fun p hq => ?_, ?_, fun e => ?_, GM h9⟩
 ·have := List.any_eq_false.1 h6 p hq; simpa using this
 ·have := List.any_eq_false.1 h7 p hq; simpa using this
 ·cases hc : clash b w.2.2.1 w.2.2.1 with
  | false => rfl
  | true => rw [hc] at h8; exact absurd h8 (by decide : ¬ (8 : Int) = 0)
 ·cases hc : clash b w.2.2.1 w.2.2.1 with
  | true => rw [hc] at h8; exact absurd h8 (by decide : ¬ (8 : Int) = 0)
  | false =>
   rw [hc, e] at h8
   exact GM h8
theorem acB {b : Book} {w : Want} (h : 5 ≤ cO b w) : aS b = true ∧ dC w = true ∧ b.2.2.2.2 < w.1 := by
 unfold cO at h
 cases h1 : aS b with
 | false => rw [h1] at h; exact absurd h (by decide : ¬ (5 : Int) ≤ 1)
 | true =>
 cases h2 : dC w with
 | false => rw [h1, h2] at h; exact absurd h (by decide : ¬ (5 : Int) ≤ 2)
 | true =>
 cases h3 : dG b w with
 | false => rw [h1, h2, h3] at h; exact absurd h (by decide : ¬ (5 : Int) ≤ 2)
 | true =>
 rw [h1, h2, h3] at h
 simp only [Bool.not_true, cond_false] at h
 by_cases hp : partAt b w.1 ≥ 0
 ·rw [decide_eq_true hp, cond_true] at h
  cases hs : uf (Dl b w.1).1 w with
  | true => rw [hs] at h; exact absurd h (by decide : ¬ (5 : Int) ≤ 0)
  | false => rw [hs] at h; exact absurd h (by decide : ¬ (5 : Int) ≤ 3)
 ·rw [decide_eq_false hp, cond_false] at h
  by_cases h4 : w.1 ≤ b.2.2.2.2
  ·rw [decide_eq_true h4] at h; exact absurd h (by decide : ¬ (5 : Int) ≤ 4)
  ·exact ⟨rfl, rfl, by omega⟩
theorem Qb {w : Want} (h : dC w = true) : dO w.2.2.1 8 = true ∧ (w.2.1 ≠ 1 → w.2.2.1 = []) := by
 simp only [dC, Bool.and_eq_true] at h
 obtain ⟨_, _, _, _, _, _, _, _, h1, h2⟩ := h
 refine ⟨h1, fun n => ?_⟩
 rw [beq_eq_false_iff_ne.2 n] at h2
 have := beq_iff_eq.1 h2
 have := of_decide_eq_false this.symm
 exact List.eq_nil_of_length_eq_zero (by omega)
theorem kP (w : Want) (u : Use) (s : aP) : (nY w u s).1 = s.1 := rfl
theorem YE {b : Book} {w : Want} (F : Free b w) {u : Use} (hu : u ∈ w.2.2.2.1) {s : aP} (hs : gJ b s = true) (he : bG b u.1 = s) (hr : u.2.1 ≠ 1) :
 dO (nT s.2.2.2.2 w.2.2.1) 8 = true ∧ clash b (nT s.2.2.2.2 w.2.2.1) (nT s.2.2.2.2 w.2.2.1) = false ∧ (w.2.1 = 1 → u.2.1 ≠ 2 → nT s.2.2.2.2 w.2.2.1 = w.2.2.1) := by
 obtain ⟨a1, a2, a3, a4, a5⟩ := gm.1 hs
 obtain ⟨s1, s2⟩ := Qb F.wok
 obtain ⟨m1, m2, m3⟩ := yQ.1 a4
 obtain ⟨n1, n2, n3⟩ := yQ.1 s1
 by_cases hk : w.2.1 = 1
 ·have hst := F.st hk u hu
  unfold ja at hst
  rw [he] at hst
  by_cases h2 : u.2.1 = 2
  ·rw [h2, show ((2 : Int) == 2) = true from rfl, cond_true] at hst
   cases hc : clash b w.2.2.1 s.2.2.2.2 with
   | true => rw [hc] at hst; exact absurd hst (by decide : ¬ (8 : Int) = 0)
   | false =>
    rw [hc, cond_false] at hst
    by_cases hn : (o_ s.2.2.2.2 w.2.2.1 : Int) > 8
    ·rw [decide_eq_true hn] at hst; exact absurd hst (by decide : ¬ (5 : Int) = 0)
    ·have el := Qg (uu a4) (uu s1)
     rw [MQ m3] at el
     refine ⟨yQ.2 ⟨by omega, fun x hx => ?_, tu _ m3⟩, yP.2 fun f hf => ?_, fun _ h => absurd h2 h⟩
     ·rcases jW.1 hx with h | h
      ·exact m2 x h
      ·exact n2 x h
     ·have c1 := yP.1 a5 f hf
      have c2 := yP.1 hc f hf
      have c3 := yP.1 F.cl f hf
      simp only [jW]
      constructor
      ·rintro ⟨h | h, g | g⟩
       ·exact c1.1 ⟨h, g⟩
       ·exact c2.2 ⟨g, h⟩
       ·exact c2.1 ⟨h, g⟩
       ·exact c3.1 ⟨h, g⟩
      ·rintro ⟨h | h, g | g⟩
       ·exact c1.2 ⟨h, g⟩
       ·exact c2.1 ⟨g, h⟩
       ·exact c2.2 ⟨h, g⟩
       ·exact c3.2 ⟨h, g⟩
  ·rw [beq_eq_false_iff_ne.2 h2, cond_false] at hst
   have hsub : ∀ x ∈ s.2.2.2.2, x ∈ w.2.2.1 := by
    cases ha : s.2.2.2.2.all fun x => w.2.2.1.contains x with
    | false => rw [ha] at hst; exact absurd hst (by decide : ¬ (8 : Int) = 0)
    | true => exact fun x hx => by have := List.all_eq_true.1 ha x hx; simpa using this
   have e : nT s.2.2.2.2 w.2.2.1 = w.2.2.1 := PN (tu _ m3) n3 fun x => by
    rw [jW]
    exact ⟨fun h => h.elim (hsub x) id, .inr⟩
   rw [e]
   exact ⟨s1, F.cl, fun _ _ => rfl⟩
 ·rw [s2 hk]
  exact ⟨a4, a5, fun h => absurd h hk⟩
theorem Ri {b : Book} {w : Want} (F : Free b w) {u : Use} (hu : u ∈ w.2.2.2.1) {s : aP} (hs : gJ b s = true) (he : bG b u.1 = s) : gJ b (nY w u s) = true ∧ lY (nY w u s) w u = true := by
 obtain ⟨a1, a2, a3, a4, a5⟩ := gm.1 hs
 have ham := F.am u hu
 unfold iV at ham
 rw [he] at ham
 have hsub : w.2.1 = 1 → u.2.1 ≠ 2 → ∀ x ∈ s.2.2.2.2, x ∈ w.2.2.1 := by
  intro hk h2
  have hst := F.st hk u hu
  unfold ja at hst
  rw [he, beq_eq_false_iff_ne.2 h2, cond_false] at hst
  cases ha : s.2.2.2.2.all fun x => w.2.2.1.contains x with
  | false => rw [ha] at hst; exact absurd hst (by decide : ¬ (8 : Int) = 0)
  | true => exact fun x hx => by have := List.all_eq_true.1 ha x hx; simpa using this
 rcases NF F.wok hu with ⟨e1, e2⟩ | ⟨e1, ek, e3, e4⟩
 ·obtain ⟨m1, m2, m3⟩ := YE F hu hs he (by omega)
  have hp : nY w u s = (s.1, s.2.1, s.2.2.1, s.2.2.2.1, nT s.2.2.2.2 w.2.2.1) := by
   unfold nY; rw [e1]; rfl
  rw [hp]
  refine ⟨gm.2 ⟨a1, a2, a3, m1, m2⟩, uI.2 ⟨fun hk => ?_, fun hk h2 => ?_, fun hk h1 x hx => jW.2 (.inr hx), ?_⟩⟩
  ·rw [e1, show ((3 : Int) == 1) = false from rfl, show ((3 : Int) == 2) = false from rfl, hk] at ham
   simp only [Bool.false_and, cond_false] at ham
   show s.2.2.2.1 ≤ 0
   by_cases hm : s.2.2.2.1 > 0
   ·rw [decide_eq_true hm] at ham; exact absurd ham (by decide : ¬ (11 : Int) = 0)
   ·omega
  ·show ∀ x ∈ nT s.2.2.2.2 w.2.2.1, x ∈ w.2.2.1
   rw [m3 hk h2]; exact fun x hx => hx
  ·show IntKind.i64.wrap (s.2.2.1 + u.2.2) ≤ s.2.2.2.1
   rw [e2, wr (by omega) (by omega)]; omega
 ·rcases e1 with e | e
  ·have hlt : ¬ s.2.2.1 < u.2.2 := by
    intro hl
    rw [e, decide_eq_true hl] at ham
    exact absurd ham (by decide : ¬ (9 : Int) = 0)
   have hp : nY w u s = (s.1, s.2.1, s.2.2.1 - u.2.2, s.2.2.2.1, s.2.2.2.2) := by
    unfold nY; rw [e, wr (n := s.2.2.1 - u.2.2) (by omega) (by omega)]; rfl
   rw [hp]
   refine ⟨gm.2 ⟨a1, a2, by simp only; omega, a4, a5⟩, uI.2 ⟨fun hk => by omega, fun hk h2 => hsub hk h2, fun _ h => absurd e h, ?_⟩⟩
   show IntKind.i64.wrap (s.2.2.1 - u.2.2 + u.2.2) ≤ s.2.2.2.1
   rw [wr (by omega) (by omega)]; omega
  ·obtain ⟨m1, m2, m3⟩ := YE F hu hs he (by omega)
   have hw : IntKind.i64.wrap (s.2.2.2.1 + u.2.2) = s.2.2.2.1 + u.2.2 := wr (by omega) (by omega)
   have hlt : ¬ s.2.2.2.1 + u.2.2 > s.2.1 := by
    intro hl
    rw [e, show ((2 : Int) == 1) = false from rfl, hw, decide_eq_true hl] at ham
    exact absurd ham (by decide : ¬ (10 : Int) = 0)
   have hp : nY w u s = (s.1, s.2.1, s.2.2.1, s.2.2.2.1 + u.2.2, nT s.2.2.2.2 w.2.2.1) := by
    unfold nY; rw [e, hw]; rfl
   rw [hp]
   refine ⟨gm.2 ⟨a1, a2, by simp only; omega, m1, m2⟩, uI.2 ⟨fun hk => by omega, fun _ h => absurd e h, fun hk h1 x hx => jW.2 (.inr hx), ?_⟩⟩
   show IntKind.i64.wrap (s.2.2.1 + u.2.2) ≤ s.2.2.2.1 + u.2.2
   rw [wr (by omega) (by omega)]; omega
theorem abu {b : Book} (o : OkB b) {w : Want} (hk : dG b w = true) : w.2.2.2.1.foldl (Hy w) b.2.1 = b.2.1.map (turn (nY w) w.2.2.2.1) :=
 Gy (f := nY w) (kP w) w.2.2.2.1 o.sa fun u hu => at_mem.1 (yh hk hu)
theorem aqZ {b : Book} {w : Want} (F : Free b w) : aS (Rx b w) = true := by
 have o := dX.1 F.ok
 have e := abu o F.kn
 have ex : (Rx b w).2.1 = b.2.1.map (turn (nY w) w.2.2.2.1) := e
 have hn : (Rx b w).2.1.map (·.1) = b.2.1.map (·.1) := by
  rw [ex, List.map_map]; exact List.map_congr_left fun s _ => kR (kP w) _ s
 have hw1 : 1 ≤ w.1 ∧ w.1 ≤ 1000000 := by
  have := F.wok
  simp only [dC, Bool.and_eq_true, inB, decide_eq_true_eq] at this
  omega
 have hso := o.seen
 have em : (b.2.2.2.1 ++ [(w, false)]).map (·.1) = b.2.2.2.1.map (·.1) ++ [w] := by simp
 refine dX.2 ⟨o.foes, o.valves, ⟨by show 0 ≤ w.1; omega, hw1.2⟩, ?_, ?_, ?_, ?_, ?_, ?_⟩
 ·rw [ex, List.length_map]; exact o.sl
 ·rw [ex]
  intro t ht
  obtain ⟨s, hs, rfl⟩ := List.mem_map.1 ht
  have hso := o.so s hs
  show gJ b _ = true
  by_cases hc : ∃ u ∈ w.2.2.2.1, u.1 = s.1
  ·obtain ⟨u, hu, eu⟩ := hc
   rw [Ea (kP w) (Il F.wok) hu eu]
   exact (Ri F hu hso (by rw [eu, zC o.sa hs])).1
  ·rw [tX fun u hu eu => hc ⟨u, hu, eu⟩]; exact hso
 ·rw [hn]; exact o.sa
 ·show (b.2.2.2.1 ++ [(w, false)]).length ≤ 6
  have := F.six
  simp; omega
 ·show ∀ v ∈ (b.2.2.2.1 ++ [(w, false)]).map (·.1), ul (Rx b w) v
  rw [em]
  intro v hv
  rcases List.mem_append.1 hv with hv | hv
  ·have hvw := o.po v hv
   obtain ⟨p, hp, rfl⟩ := List.mem_map.1 hv
   have hsh := F.sh p hp
   rw [oG] at hsh
   exact DK (kP w) ex rfl o.sa hvw (by show p.1.1 ≤ w.1; have := hvw.1; have := F.seen; omega) fun u hu => MM hsh hu
  ·obtain rfl := List.mem_singleton.1 hv
   refine ⟨Int.le_refl _, F.wok, by rw [DC hn rfl]; exact F.kn, fun u hu => ?_⟩
   have h0 := yh F.kn hu
   obtain ⟨g1, g2⟩ := nC h0
   rw [Gl (kR (kP _) _) ex o.sa h0, Ea (kP _) (Il F.wok) hu g2.symm]
   exact (Ri F hu (o.so _ g1) rfl).2
 ·show ((b.2.2.2.1 ++ [(w, false)]).map (·.1)).Pairwise _
  rw [em]
  refine List.pairwise_append.2 ⟨o.pp, by simp, fun v hv x hx => ?_⟩
  obtain rfl := List.mem_singleton.1 hx
  have hvw := o.po v hv
  obtain ⟨p, hp, rfl⟩ := List.mem_map.1 hv
  have h1 := F.sh p hp
  have h2 := F.cr p hp
  rw [oG] at h1
  rw [H9] at h2
  exact ⟨by have := hvw.1; have := F.seen; omega, h1, h2⟩
theorem PO : aS ([], [], [], [], 0) = true := by decide +kernel
theorem aoj {b : Book} {n : Int} (h : aS b = true) (h1 : b.2.2.2.2 ≤ n) (h2 : n ≤ 1000000) : aS (b.1, b.2.1, b.2.2.1, b.2.2.2.1, n) = true := by
 have o := dX.1 h
 have := o.seen
 exact dX.2 ⟨o.foes, o.valves, ⟨by show 0 ≤ n; omega, h2⟩, o.sl, o.so, o.sa, o.pl, fun w hw => by
  obtain ⟨g1, g2, g3, g4⟩ := o.po w hw
  exact ⟨by show w.1 ≤ n; omega, g2, g3, g4⟩, o.pp⟩
theorem QN {w : Want} (h : dC w = true) : 1 ≤ w.1 ∧ w.1 ≤ 1000000 := by
 simp only [dC, Bool.and_eq_true, inB, decide_eq_true_eq] at h
 omega
theorem IA {b : Book} {w : Want} (h : aS b = true) : aS (gQ b w).1 = true := by
 obtain ⟨f1, f2, f3, f4, f5⟩ := wV b w
 unfold gQ
 cases h1 : cO b w == 1 with
 | true => exact PO
 | false =>
  simp only [cond_false]
  cases h24 : inB (cO b w) 2 4 with
  | true => exact h
  | false =>
   simp only [cond_false]
   by_cases hp : partAt b w.1 ≥ 0
   ·rw [decide_eq_true hp]; exact h
   ·rw [decide_eq_false hp]
    cases h0 : cO b w == 0 with
    | true => exact aqZ (acC (beq_iff_eq.1 h0) (by omega))
    | false =>
     have n0 := beq_eq_false_iff_ne.1 h0
     have n1 := beq_eq_false_iff_ne.1 h1
     have h5 : 5 ≤ cO b w := by
      have : ¬ (2 ≤ cO b w ∧ cO b w ≤ 4) := by
       rintro ⟨g1, g2⟩
       unfold inB at h24
       rw [decide_eq_true (show cO b w ≥ 2 from g1), decide_eq_true g2] at h24
       cases h24
      omega
     obtain ⟨_, g2, g3⟩ := acB h5
     have := QN g2
     exact aoj h (by omega) (by omega)
theorem Lr {x : Txt} (h : jh x = true) : x.length ≤ 8 := by
 simp only [jh, inB, Bool.and_eq_true, decide_eq_true_eq] at h
 omega
theorem IJ {l : List Txt} {n : Int} (hn : n ≤ 1000) (h : dO l n = true) : smL l := by
 obtain ⟨h1, h2, _⟩ := yQ.1 h
 exact ⟨by omega, fun x hx => by have := Lr (h2 x hx); unfold smT; omega⟩
theorem aoq {w : Want} (h : dC w = true) : smW w := by
 have h' := h
 simp only [dC, pR, Bool.and_eq_true, Bool.not_eq_true', decide_eq_false_iff_not] at h
 obtain ⟨_, _, ⟨h1, h2⟩, h3, h4, _, _, _, h5, _⟩ := h
 refine ⟨IJ (by omega) h5, ⟨by omega, fun u hu => ?_⟩, IJ (by omega) h3, IJ (by omega) h4⟩
 obtain ⟨i, hi⟩ := List.getElem?_of_mem hu
 have := dR.1 h2 i u hi
 simp only [tH, Bool.and_eq_true] at this
 have := Lr this.1
 unfold smU smT; omega
theorem sH {b : Book} (h : aS b = true) : smB b := by
 have o := dX.1 h
 have hf := o.foes
 simp only [ui, Bool.and_eq_true, Bool.not_eq_true', decide_eq_false_iff_not] at hf
 have h1 := o.sl
 have h2 := o.pl
 refine ⟨⟨by omega, fun f hm => ?_⟩, ⟨by omega, fun s hs => ?_⟩, IJ (by omega) o.valves, by omega, fun p hp => ?_⟩
 ·obtain ⟨i, hi⟩ := List.getElem?_of_mem hm
  have := dR.1 hf.2 i f hi
  simp only [vz, Bool.and_eq_true] at this
  have g1 := Lr this.1
  have g2 := Lr this.2.1
  exact ⟨by unfold smT; omega, by unfold smT; omega⟩
 ·obtain ⟨a1, _, _, a4, _⟩ := gm.1 (o.so s hs)
  have := Lr a1
  exact ⟨by unfold smT; omega, IJ (by omega) a4⟩
 ·exact aoq (o.po p.1 (List.mem_map.2 ⟨p, hp, rfl⟩)).2.1
end Go.MC
namespace Go.MC
def rQ (c : UInt8) : List UInt8 → List UInt8 → List (List UInt8)
 | acc, [] => [acc]
 | acc, b :: s => if b = c then acc :: rQ c [] s else rQ c (acc ++ [b]) s
def dA (c : UInt8) (s : List UInt8) : List (List UInt8) := rQ c [] s
theorem uQ {c : UInt8} : ∀ {s : List UInt8} (acc : List UInt8), c ∉ s → rQ c acc s = [acc ++ s]
 | [], acc, _ => by simp [rQ]
 | b :: s, acc, h => by
  have h1 : b ≠ c := fun e => h (by simp [e])
  have h2 : c ∉ s := fun m => h (by simp [m])
  rw [rQ, if_neg h1, uQ _ h2, List.append_assoc]; rfl
theorem yE {c : UInt8} : ∀ {a : List UInt8} (acc t : List UInt8), c ∉ a → rQ c acc (a ++ c :: t) = (acc ++ a) :: dA c t
 | [], acc, t, _ => by simp [rQ, dA]
 | b :: a, acc, t, h => by
  have h1 : b ≠ c := fun e => h (by simp [e])
  have h2 : c ∉ a := fun m => h (by simp [m])
  rw [List.cons_append, rQ, if_neg h1, yE _ _ h2, List.append_assoc]; rfl
theorem VW {c : UInt8} {s : List UInt8} (h : c ∉ s) : Lib.index s [c] = -1 := by
 refine Lib.index_none fun j hj => ?_
 cases hb : Lib.occAt s [c] j with
 | false => rfl
 | true => exact absurd (List.mem_of_getElem? (Lib.occAt_head rfl hb)) h
theorem index_hit {c : UInt8} {a t : List UInt8} (h : c ∉ a) : Lib.index (a ++ c :: t) [c] = (a.length : Int) := by
 refine Lib.index_first (by simp) ?_ fun j hj => ?_
 ·unfold Lib.occAt
  rw [List.drop_left]
  simp [List.isPrefixOf]
 ·cases hb : Lib.occAt (a ++ c :: t) [c] j with
  | false => rfl
  | true =>
   have h1 := Lib.occAt_head rfl hb
   rw [List.getElem?_append_left hj] at h1
   exact absurd (List.mem_of_getElem? h1) h
theorem WE (c : UInt8) : ∀ (n : Nat) (s : List UInt8), s.length ≤ n → Lib.split s [c] = dA c s := by
 intro n
 induction n with
 | zero =>
  intro s h
  have : s = [] := List.length_eq_zero_iff.1 (by omega)
  subst this
  rfl
 | succ n ih =>
  intro s h
  by_cases hc : c ∈ s
  ·obtain ⟨a, t, rfl, ha⟩ := List.eq_append_cons_of_mem hc
   have hi := index_hit (t := t) ha
   have hd : (a ++ c :: t).drop (a.length + 1) = t := by rw [List.drop_append]; simp
   unfold Lib.split
   rw [Lib.count_hit (by simp) hi, Nat.add_comm 1]
   unfold Lib.splitK
   have hne : ¬ (Lib.index (a ++ c :: t) [c] == -1) = true := by rw [hi]; intro e; have := beq_iff_eq.1 e; omega
   rw [if_neg hne, hi]
   have e1 : (a.length : Int).toNat = a.length := rfl
   rw [e1]
   show (a ++ c :: t).take (a.length + 0) :: Lib.splitK [c] 0 (Lib.count ((a ++ c :: t).drop (a.length + 1)) [c]) ((a ++ c :: t).drop (a.length + 1)) = _
   rw [hd, Nat.add_zero, List.take_left, show dA c (a ++ c :: t) = a :: dA c t from yE [] t ha]
   congr 1
   exact ih t (by simp at h; omega)
  ·unfold Lib.split
   rw [Lib.count_miss (VW hc)]
   exact (uQ [] hc).symm
theorem agk (c : UInt8) (s : List UInt8) : Lib.split s [c] = dA c s := WE c _ s (Nat.le_refl _)
theorem gV (c : UInt8) : ∀ (n : Nat) (s : List UInt8), s.length ≤ n → (dA c s).length = s.count c + 1 := by
 intro n
 induction n with
 | zero =>
  intro s h
  have : s = [] := List.length_eq_zero_iff.1 (by omega)
  subst this
  rfl
 | succ n ih =>
  intro s h
  by_cases hc : c ∈ s
  ·obtain ⟨a, t, rfl, ha⟩ := List.eq_append_cons_of_mem hc
   rw [show dA c (a ++ c :: t) = a :: dA c t from yE [] t ha, List.length_cons, ih t (by simp at h; omega), List.count_append, List.count_eq_zero_of_not_mem ha, List.count_cons_self]
   omega
  ·rw [show dA c s = [s] from uQ [] hc, List.count_eq_zero_of_not_mem hc]; rfl
theorem X9 {c : UInt8} {s : List UInt8} (h : s.count c = 1) : dA c s = [(Lib.cut s [c]).1, (Lib.cut s [c]).2.1] := by
 have hc : c ∈ s := List.count_pos_iff.1 (by omega)
 obtain ⟨a, t, rfl, ha⟩ := List.eq_append_cons_of_mem hc
 have ht : c ∉ t := by
  rw [List.count_append, List.count_eq_zero_of_not_mem ha, List.count_cons_self] at h
  exact List.count_eq_zero.1 (by omega)
 have hi := index_hit (t := t) ha
 have hd : (a ++ c :: t).drop (a.length + 1) = t := by rw [List.drop_append]; simp
 rw [show dA c (a ++ c :: t) = a :: dA c t from yE [] t ha, show dA c t = [t] from uQ [] ht]
 unfold Lib.cut
 rw [hi, if_pos (by omega)]
 show [a, t] = [(a ++ c :: t).take a.length, (a ++ c :: t).drop (a.length + 1)]
 rw [hd, List.take_left]
theorem Ha {c : UInt8} : ∀ {s acc : List UInt8} {x : List UInt8}, x ∈ rQ c acc s → x.length ≤ acc.length + s.length
 | [], acc, x, h => by
  simp only [rQ, List.mem_singleton] at h
  rw [h]; simp
 | b :: s, acc, x, h => by
  unfold rQ at h
  split at h
  ·rcases List.mem_cons.1 h with rfl | h
   ·simp
   ·have := Ha h
    simp at this ⊢; omega
  ·have := Ha h
   simp at this ⊢; omega
theorem sJ {c : UInt8} {s x : List UInt8} (h : x ∈ dA c s) : x.length ≤ s.length := by
 have := Ha h
 simpa using this
theorem Gp {c : UInt8} : ∀ (s acc : List UInt8), (rQ c acc s).length ≤ s.length + 1
 | [], acc => by simp [rQ]
 | b :: s, acc => by
  unfold rQ
  split
  ·have := Gp (c := c) s []
   simp; omega
  ·have := Gp (c := c) s (acc ++ [b])
   simp; omega
theorem Ja (c : UInt8) (s : List UInt8) : (dA c s).length ≤ s.length + 1 := Gp s []
def DZ (b : UInt8) : Bool := decide (48 ≤ b.toNat) && decide (b.toNat ≤ 57)
def PK (n : Nat) (s : List UInt8) : Nat := s.foldl (fun n b => n * 10 + (b.toNat - 48)) n
def lh (s : List UInt8) : Int := bif (decide (1 ≤ s.length) && decide (s.length ≤ 7)) && (!(decide (1 < s.length) && s.headD 0 == 48) && s.all DZ) then ((PK 0 s : Nat) : Int) else -1
theorem Dy : ∀ (s : List UInt8) (n : Nat), s.all DZ = true → Lib.decFrom n s = some (PK n s)
 | [], n, _ => rfl
 | b :: s, n, h => by
  simp only [List.all_cons, Bool.and_eq_true] at h
  have h1 := h.1
  unfold DZ at h1
  simp only [Bool.and_eq_true, decide_eq_true_eq] at h1
  unfold Lib.decFrom
  rw [show Lib.digitVal b = some (b.toNat - 48) from if_pos h1]
  exact Dy s _ h.2
theorem aff {s : List UInt8} (hn : s ≠ []) (h : s.all DZ = true) : Lib.atoi s = some ((PK 0 s : Nat) : Int) := by
 cases s with
 | nil => exact absurd rfl hn
 | cons b r =>
  have hb : DZ b = true := by simp only [List.all_cons, Bool.and_eq_true] at h; exact h.1
  have h45 : ¬ (b == 45) = true := fun e => by rw [beq_iff_eq.1 e] at hb; revert hb; decide
  have h43 : ¬ (b == 43) = true := fun e => by rw [beq_iff_eq.1 e] at hb; revert hb; decide
  show (if b == 45 then _ else if b == 43 then _ else (Lib.decNat (b :: r)).map fun (m : Nat) => (m : Int)) = _
  rw [if_neg h45, if_neg h43]
  have hd : Lib.decNat (b :: r) = some (PK 0 (b :: r)) := Dy _ _ h
  rw [hd]
  rfl
def namesT (s : List UInt8) : List (List UInt8) := bif s == [45] then [] else dA 44 s
def y9 (l : List (List UInt8)) : List UInt8 := bif l.isEmpty then [45] else Lib.join l [44]
end Go.MC
namespace Go.MC
open Go.MC.F
theorem dle {i j : Nat} (h : i ≤ j) : decide ((i : Int) ≤ (j : Int)) = true := decide_eq_true (by omega)
theorem age {a c : UInt8} {k : Int} (hk : k = (c.toNat : Int)) : ((a.toNat : Int) == k) = decide (a = c) := by
 subst hk
 by_cases h : a = c
 ·subst h; simp
 ·rw [decide_eq_false h, beq_eq_false_iff_ne]
  intro e
  exact h (UInt8.toNat_inj.1 (by omega))
theorem U9 {N : Nat} {s : Txt} {c : UInt8} {k : Int} (hk : k = (c.toNat : Int)) (hs : s.length ≤ 1048576) : ∀ (d n i frm : Nat) (out : List Txt), i + d = s.length → d < n → frm ≤ i → out.length ≤ i →
 uH N s k n (frm : Int) (i : Int) out = some (out ++ rQ c ((s.take i).drop frm) (s.drop i)) := by
 have hlim := aQ
 intro d
 induction d with
 | zero =>
  intro n i frm out h1 h2 h3 h4
  obtain ⟨n, rfl⟩ : ∃ j, n = j + 1 := ⟨n - 1, by omega⟩
  show og N s k (uH N s k n) (frm : Int) (i : Int) out = _
  have hi : i = s.length := by omega
  subst hi
  unfold og
  simp only [di, dge, dle h3, dle (Nat.le_refl _), decide_eq_true (show (out.length + 1) * 16 ≤ lim by omega), cond_true, cond_false, Int.toNat_natCast, List.take_length, List.drop_length, rQ]
 | succ d ih =>
  intro n i frm out h1 h2 h3 h4
  obtain ⟨n, rfl⟩ : ∃ j, n = j + 1 := ⟨n - 1, by omega⟩
  show og N s k (uH N s k n) (frm : Int) (i : Int) out = _
  have hi : i < s.length := by omega
  have hw := wrS (show i ≤ 1000000000000000000 by omega)
  unfold og
  simp only [dlt hi, dge, dle h3, dle (Nat.le_of_lt hi), decide_eq_true (show (out.length + 1) * 16 ≤ lim by omega), cond_true, cond_false, Int.toNat_natCast, hw, gAt hi, age hk]
  rw [List.drop_eq_getElem_cons hi, rQ]
  have hg : s.getD i 0 = s[i] := getD_at hi 0
  rw [hg]
  by_cases hc : s[i] = c
  ·rw [if_pos hc, decide_eq_true hc]
   simp only [cond_true]
   rw [ih n (i + 1) (i + 1) _ (by omega) (by omega) (Nat.le_refl _) (by simp; omega)]
   have e0 : (s.take (i + 1)).drop (i + 1) = [] := List.drop_of_length_le (by rw [List.length_take]; omega)
   rw [e0, List.append_assoc]
   rfl
  ·rw [if_neg hc, decide_eq_false hc]
   simp only [cond_false]
   rw [ih n (i + 1) frm out (by omega) (by omega) (by omega) (by omega)]
   congr 3
   rw [List.take_succ_eq_append_getElem hi, List.drop_append_of_le_length (by rw [List.length_take]; omega)]
theorem SK {N : Nat} (hN : lim < N) {s : Txt} (hs : s.length ≤ 1048576) {c : UInt8} {k : Int} (hk : k = (c.toNat : Int)) : Dz N s k = some (dA c s) := by
 have hlim := aQ
 have := U9 (N := N) hk hs s.length N 0 0 [] (by omega) (by omega) (Nat.le_refl _) (by simp)
 exact this
theorem zW {N : Nat} {s : Txt} (hs : s.length ≤ 1048576) (c : UInt8) : strings_Split N s [c] = some (dA c s) := by
 unfold strings_Split
 rw [← agk]
 simp only [decide_eq_true (show s.length < 4294967281 by omega), cond_true]
theorem qR {N : Nat} (hN : lim < N) {s : Txt} (hs : s.length ≤ 1048576) : I4 N s = some (namesT s) := by
 unfold I4 namesT
 rw [ak (SK hN hs (c := 44) (k := 44) rfl)]
 cases s == [45] <;> rfl
theorem iC {N : Nat} {s : Txt} (hs : s.length ≤ 1048576) : mO N s = some (namesT s) := by
 unfold mO namesT
 rw [ak (zW hs 44)]
 cases s == [45] <;> rfl
theorem arv (b : UInt8) : DZ b = (!decide ((b.toNat : Int) < 48) && !decide ((b.toNat : Int) > 57)) := by
 unfold DZ
 rw [Bool.eq_iff_iff]
 simp only [Bool.and_eq_true, decide_eq_true_eq, Bool.not_eq_true', decide_eq_false_iff_not]
 omega
theorem Jc {N : Nat} {s : Txt} (hs : s.length ≤ 7) : ∀ (d n i v : Nat), i + d = s.length → d < n → v < 10 ^ i → wH N s n (v : Int) (i : Int) = some (bif (s.drop i).all DZ then ((PK v (s.drop i) : Nat) : Int) else -1) := by
 have hlim := aQ
 intro d
 induction d with
 | zero =>
  intro n i v h1 h2 h3
  obtain ⟨n, rfl⟩ : ∃ j, n = j + 1 := ⟨n - 1, by omega⟩
  show uB N s (wH N s n) (v : Int) (i : Int) = _
  have hi : i = s.length := by omega
  subst hi
  unfold uB
  simp only [di, cond_false, List.drop_length, List.all_nil, cond_true, PK, List.foldl_nil]
 | succ d ih =>
  intro n i v h1 h2 h3
  obtain ⟨n, rfl⟩ : ∃ j, n = j + 1 := ⟨n - 1, by omega⟩
  show uB N s (wH N s n) (v : Int) (i : Int) = _
  have hi : i < s.length := by omega
  have hv : v < 10000000 := Nat.lt_of_lt_of_le h3 (Nat.pow_le_pow_right (by decide) (show i ≤ 7 by omega))
  have hb : s[i].toNat < 256 := UInt8.toNat_lt _
  unfold uB
  simp only [dlt hi, dge, cond_true, gAt hi]
  rw [List.drop_eq_getElem_cons hi, List.all_cons, arv]
  by_cases hlo : (s[i].toNat : Int) < 48
  ·rw [decide_eq_true hlo]; rfl
  ·rw [decide_eq_false hlo]
   by_cases hhi : (s[i].toNat : Int) > 57
   ·rw [decide_eq_true hhi]; rfl
   ·rw [decide_eq_false hhi]
    simp only [cond_false, Bool.not_false, Bool.true_and, Bool.and_true]
    have e : IntKind.i64.wrap (IntKind.i64.wrap (IntKind.i64.wrap ((v : Int) * 10) + IntKind.i64.wrap (s[i].toNat : Int)) - 48) = ((v * 10 + (s[i].toNat - 48) : Nat) : Int) := by
     rw [wr (n := (v : Int) * 10) (by omega) (by omega), wr (n := (s[i].toNat : Int)) (by omega) (by omega), wr (n := (v : Int) * 10 + (s[i].toNat : Int)) (by omega) (by omega), wr (by omega) (by omega)]
     omega
    rw [e, wrS (show i ≤ 1000000000000000000 by omega)]
    have h10 : v * 10 + (s[i].toNat - 48) < 10 ^ (i + 1) := by rw [Nat.pow_succ]; omega
    exact ih n (i + 1) _ (by omega) (by omega) h10
theorem Tm (s : Txt) : s.getD 0 0 = s.headD 0 := by cases s <;> rfl
theorem b48 (b : UInt8) : ((b.toNat : Int) == 48) = (b == 48) := by
 rw [age (c := 48) (k := 48) rfl]
 rfl
theorem h_ {N : Nat} (hN : lim < N) (s : Txt) : t_ N s = some (lh s) := by
 have hlim := aQ
 unfold t_ aeI lh
 rw [ak (Je _ _ _)]
 have e1 : inB (s.length : Int) 1 7 = (decide (1 ≤ s.length) && decide (s.length ≤ 7)) := by
  unfold inB
  rw [Bool.eq_iff_iff]
  simp only [Bool.and_eq_true, decide_eq_true_eq]
  omega
 rw [e1]
 cases hb : (decide (1 ≤ s.length) && decide (s.length ≤ 7)) with
 | false => rfl
 | true =>
  simp only [Bool.and_eq_true, decide_eq_true_eq] at hb
  have hl := Jc (N := N) hb.2 s.length N 0 0 (by omega) (by omega) (by decide)
  rw [List.drop_zero] at hl
  have hl : wH N s N 0 0 = some (bif s.all DZ then ((PK 0 s : Nat) : Int) else -1) := hl
  simp only [Bool.not_true, cond_false, Bool.true_and]
  by_cases h1 : 1 < s.length
  ·rw [decide_eq_true (show ((s.length : Int) > 1) by omega), decide_eq_true h1, decide_eq_true (show (0 : Int) < (s.length : Int) by omega)]
   simp only [cond_true, Bool.true_and]
   rw [show s.getD (Int.toNat 0) 0 = s.headD 0 from Tm s, b48, hl]
   cases s.headD 0 == 48 <;> rfl
  ·rw [decide_eq_false (show ¬ ((s.length : Int) > 1) by omega), decide_eq_false h1]
   simp only [cond_false, Bool.false_and, Bool.not_false, Bool.true_and]
   rw [hl]
theorem eH {N : Nat} (hN : lim < N) (s : Txt) : uT N s = some (lh s) := by
 have hlim := aQ
 unfold uT aie lh
 rw [ak (tq _ _ _)]
 have e1 : inB (s.length : Int) 1 7 = (decide (1 ≤ s.length) && decide (s.length ≤ 7)) := by
  unfold inB
  rw [Bool.eq_iff_iff]
  simp only [Bool.and_eq_true, decide_eq_true_eq]
  omega
 rw [e1]
 cases hb : (decide (1 ≤ s.length) && decide (s.length ≤ 7)) with
 | false => rfl
 | true =>
  simp only [Bool.and_eq_true, decide_eq_true_eq] at hb
  have hl : O5 N s N 0 = some (bif s.all DZ then ((PK 0 s : Nat) : Int) else -1) := by
   refine (bU s _ (fun _ x => DZ x) (some (-1)) (ob (strconv_Atoi N s) (Int.ofNat 0) fun r_1 => some r_1) (fun g i hi => ?_) (fun g => ?_) N (by omega)).trans ?_
   ·unfold Et
    simp only [dlt hi, dge, cond_true, gAt hi, wrS (show i ≤ 1000000000000000000 by omega), arv]
    cases decide ((s[i].toNat : Int) < 48) <;> cases decide ((s[i].toNat : Int) > 57) <;> rfl
   ·unfold Et
    rw [di]; rfl
   ·rw [dF]
    cases ha : s.all DZ with
    | false => rfl
    | true =>
     have hA : strconv_Atoi N s = some ((PK 0 s : Nat) : Int) := by
      unfold strconv_Atoi
      rw [decide_eq_true (show s.length ≤ 18 by omega), cond_true]
      exact aff (fun e => by rw [e] at hb; simp at hb) ha
     rw [ak hA]
     rfl
  simp only [Bool.not_true, cond_false, Bool.true_and]
  by_cases h1 : 1 < s.length
  ·rw [decide_eq_true (show ((s.length : Int) > 1) by omega), decide_eq_true h1, decide_eq_true (show (0 : Int) < (s.length : Int) by omega)]
   simp only [cond_true, Bool.true_and]
   rw [show s.getD (Int.toNat 0) 0 = s.headD 0 from Tm s, b48, hl]
   cases s.headD 0 == 48 <;> rfl
  ·rw [decide_eq_false (show ¬ ((s.length : Int) > 1) by omega), decide_eq_false h1]
   simp only [cond_false, Bool.false_and, Bool.not_false, Bool.true_and]
   rw [hl]
end Go.MC
namespace Go.MC
open Go.MC.F
theorem Ed {α β ρ : Type} {l : List α} {rd : (Int → List β → Option ρ) → Int → List β → Option ρ} (f : α → β) (fin : List β → Option ρ)
 (hstep : ∀ (g : Int → List β → Option ρ) (i : Nat) (out : List β) (h : i < l.length), out.length ≤ i → rd g (i : Int) out = g ((i + 1 : Nat) : Int) (out ++ [f l[i]]))
 (hend : ∀ (g : Int → List β → Option ρ) (out : List β), rd g (l.length : Int) out = fin out) {N : Nat} (hN : l.length < N) : lp (fun _ _ => none) rd N 0 [] = fin (l.map f) := by
 have := eQ l (fun (g : Int → List β → Option ρ) i (d : List β) => g (i : Int) d) (fun _ _ => none) rd (fun i d x => .inl (d ++ [f x])) fin (fun i d => d.length ≤ i)
  (fun g i st h hi => ⟨hstep g i st h hi, fun st' hs => by cases hs; simp; omega⟩) (fun g d hd => hend g d) N hN [] (by simp)
 refine this.trans ?_
 have : ∀ (l : List α) i (d : List β), outW fin (dL (fun i (d : List β) x => (Sum.inl (d ++ [f x]) : List β ⊕ Option ρ)) i l d) = fin (d ++ l.map f) := by
  intro l
  induction l with
  | nil => intro i d; simp [dL, outW]
  | cons x xs ih =>
   intro i d
   simp only [dL]
   rw [ih (i + 1) (d ++ [f x])]
   simp
 simpa using this l 0 []
def Ws (x : Txt) : Use := bif x.count 60 == 1 then ((Lib.cut x [60]).1, 1, lh (Lib.cut x [60]).2.1) else bif x.count 62 == 1 then ((Lib.cut x [62]).1, 2, lh (Lib.cut x [62]).2.1) else (x, 3, 0)
def vG (s : Txt) : List Use := (namesT s).map Ws
theorem pV (s : Txt) : (namesT s).length ≤ s.length + 1 := by
 unfold namesT
 cases s == [45] with
 | true => simp
 | false => exact Ja 44 s
theorem pY {s x : Txt} (h : x ∈ namesT s) : x.length ≤ s.length := by
 unfold namesT at h
 cases hb : s == [45] with
 | true => rw [hb] at h; simp at h
 | false => rw [hb] at h; exact sJ h
theorem arN (c : UInt8) (x : Txt) : (((dA c x).length : Int) == 2) = (x.count c == 1) := by
 rw [gV c _ x (Nat.le_refl _), Bool.eq_iff_iff, beq_iff_eq, beq_iff_eq]
 omega
theorem apT {N : Nat} (hN : lim < N) {s : Txt} (hs : s.length ≤ 1000000) : ahS N s = some (vG s) := by
 have hlim := aQ
 have hl := pV s
 unfold ahS ajG
 rw [ak (qR hN (by omega))]
 refine Ed (l := namesT s) Ws some (fun g i out hi ho => ?_) (fun g out => ?_) (by omega)
 ·have hx : (namesT s)[i].length ≤ 1048576 := Nat.le_trans (pY (List.getElem_mem hi)) (by omega)
  have hlen := gV 60 _ (namesT s)[i] (Nat.le_refl _)
  have hlen2 := gV 62 _ (namesT s)[i] (Nat.le_refl _)
  unfold Eh
  simp only [dlt hi, dge, cond_true, gAt hi, ak (SK hN hx (c := 60) (k := 60) rfl), ak (SK hN hx (c := 62) (k := 62) rfl), arN, wrS (show i ≤ 1000000000000000000 by omega), decide_eq_true (show (out.length + 1) * 32 ≤ lim by omega)]
  unfold Ws
  cases h60 : (namesT s)[i].count 60 == 1 with
  | true =>
   have h1 := beq_iff_eq.1 h60
   rw [X9 h1]
   simp only [cond_true, List.length_cons, List.length_nil]
   rw [ak (h_ hN _)]
   rfl
  | false =>
   simp only [cond_false]
   cases h62 : (namesT s)[i].count 62 == 1 with
   | true =>
    have h1 := beq_iff_eq.1 h62
    rw [X9 h1]
    simp only [cond_true, List.length_cons, List.length_nil]
    rw [ak (h_ hN _)]
    rfl
   | false => rfl
 ·unfold Eh
  rw [di]; rfl
theorem Kw {N : Nat} (x : Txt) (c : UInt8) : strings_Count N x [c] = some ((x.count c : Nat) : Int) := rfl
theorem Zz {N : Nat} {x : Txt} (hx : x.length ≤ 1048576) (c : UInt8) : strings_Cut N x [c] = some (Lib.cut x [c]) := by
 unfold strings_Cut
 simp only [decide_eq_true (show x.length < 4294967281 by omega), cond_true]
theorem apG (n : Nat) : ((n : Int) == 1) = (n == 1) := by
 rw [Bool.eq_iff_iff, beq_iff_eq, beq_iff_eq]; omega
theorem alg {N : Nat} (hN : lim < N) {x : Txt} (hx : x.length ≤ 1048576) (g : Int → List Use → Option (List Use)) (r : List Txt) (t15 t16 : Int) {out : List Use} (ho : (out.length + 1) * 32 ≤ lim) :
 iE N g r t15 t16 out x ((([[], [60], [62]] : List Txt).length : Nat) : Int) x 3 0 [[], [60], [62]] N 0 = g (IntKind.i64.wrap (t16 + 1)) (out ++ [Ws x]) := by
 have hlim := aQ
 obtain ⟨n, rfl⟩ : ∃ n, N = n + 4 := ⟨N - 4, by omega⟩
 have hL : ∀ (u : Use), decide ((out.length + [u].length) * 32 ≤ lim) = true := fun u => decide_eq_true (by simpa using ho)
 have e3 : (([[], [60], [62]] : List Txt).length : Int) = 3 := rfl
 rw [e3]
 have st0 : iE (n + 4) g r t15 t16 out x 3 x 3 0 [[], [60], [62]] (n + 4) 0 = iE (n + 4) g r t15 t16 out x 3 x 3 0 [[], [60], [62]] (n + 3) 1 := rfl
 have st1 : iE (n + 4) g r t15 t16 out x 3 x 3 0 [[], [60], [62]] (n + 3) 1 = ob (strings_Count (n + 4) x [60]) (Int.ofNat 0) fun r_1 =>
  bif r_1 == 1 then (ob (strings_Cut (n + 4) x [60]) ([], [], false) fun r_2 => ob (uT (n + 4) r_2.2.1) (Int.ofNat 0) fun r_3 =>
   bif decide ((out.length + [((r_2.1, 1, r_3) : Use)].length) * 32 ≤ lim) then g (IntKind.i64.wrap (t16 + 1)) (out ++ [(r_2.1, 1, r_3)]) else none)
  else iE (n + 4) g r t15 t16 out x 3 x 3 0 [[], [60], [62]] (n + 2) 2 := rfl
 have st2 : iE (n + 4) g r t15 t16 out x 3 x 3 0 [[], [60], [62]] (n + 2) 2 = ob (strings_Count (n + 4) x [62]) (Int.ofNat 0) fun r_1 =>
  bif r_1 == 1 then (ob (strings_Cut (n + 4) x [62]) ([], [], false) fun r_2 => ob (uT (n + 4) r_2.2.1) (Int.ofNat 0) fun r_3 =>
   bif decide ((out.length + [((r_2.1, 2, r_3) : Use)].length) * 32 ≤ lim) then g (IntKind.i64.wrap (t16 + 1)) (out ++ [(r_2.1, 2, r_3)]) else none)
  else iE (n + 4) g r t15 t16 out x 3 x 3 0 [[], [60], [62]] (n + 1) 3 := rfl
 have st3 : iE (n + 4) g r t15 t16 out x 3 x 3 0 [[], [60], [62]] (n + 1) 3 = bif decide ((out.length + [((x, 3, 0) : Use)].length) * 32 ≤ lim) then g (IntKind.i64.wrap (t16 + 1)) (out ++ [(x, 3, 0)]) else none := rfl
 rw [st0, st1, ak (Kw x 60), apG]
 unfold Ws
 cases h60 : x.count 60 == 1 with
 | true =>
  simp only [cond_true]
  rw [ak (Zz hx 60), ak (eH hN _), hL]
  rfl
 | false =>
  simp only [cond_false]
  rw [st2, ak (Kw x 62), apG]
  cases h62 : x.count 62 == 1 with
  | true =>
   simp only [cond_true]
   rw [ak (Zz hx 62), ak (eH hN _), hL]
   rfl
  | false =>
   simp only [cond_false]
   rw [st3, hL]
   rfl
theorem Ic {N : Nat} (hN : lim < N) {s : Txt} (hs : s.length ≤ 1000000) : FY N s = some (vG s) := by
 have hlim := aQ
 have hl := pV s
 unfold FY WH
 rw [ak (iC (by omega))]
 refine Ed (l := namesT s) Ws some (fun g i out hi ho => ?_) (fun g out => ?_) (by omega)
 ·have hx : (namesT s)[i].length ≤ 1048576 := Nat.le_trans (pY (List.getElem_mem hi)) (by omega)
  unfold xX
  simp only [dlt hi, dge, cond_true, gAt hi]
  refine (alg hN hx g _ _ _ (show (out.length + 1) * 32 ≤ lim by omega)).trans ?_
  rw [wrS (show i ≤ 1000000000000000000 by omega)]
 ·unfold xX
  rw [di]; rfl
theorem adv {n : Int} (h0 : 0 ≤ n) (h1 : n < 10) : List.map byteOf [IntKind.u8.wrap (IntKind.i64.wrap (48 + n))] = [UInt8.ofNat (48 + n.toNat)] := by
 have e : IntKind.u8.wrap (IntKind.i64.wrap (48 + n)) = 48 + n := by
  rw [wr (by omega) (by omega)]
  show (48 + n) % 256 = _
  omega
 rw [e]
 show [UInt8.ofNat (48 + n).toNat] = _
 rw [show (48 + n).toNat = 48 + n.toNat by omega]
theorem O1 : ∀ {k u : Nat}, u < 10 ^ (k + 1) → (Lib.decDigits u).length ≤ k + 1
 | 0, u, h => by rw [Lib.decDigits, dif_pos (by simpa using h)]; simp
 | k + 1, u, h => by
  rw [Lib.decDigits]
  split
  ·simp
  ·have := O1 (k := k) (u := u / 10) (by rw [Nat.pow_succ] at h; omega)
   rw [List.length_append]
   simp only [List.length_cons, List.length_nil]
   omega
theorem apH {N : Nat} : ∀ (k m u : Nat), k ≤ m → k ≤ 17 → u < 10 ^ (k + 1) → ni N m (u : Int) = some (Lib.decDigits u)
 | k, m, u, h1, h2, h3 => by
  have hlim := aQ
  have hbig : 10 ^ (k + 1) ≤ 10 ^ 18 := Nat.pow_le_pow_right (by decide) (by omega)
  have hu : u < 1000000000000000000 := Nat.lt_of_lt_of_le h3 hbig
  have hneg : decide ((u : Int) < 0) = false := decide_eq_false (by omega)
  by_cases hs : u < 10
  ·have e := adv (n := (u : Int)) (by omega) (by omega)
   rw [Lib.decDigits, dif_pos hs]
   cases m with
   | zero =>
    unfold ni
    rw [hneg, decide_eq_true (show (u : Int) < 10 by omega), e]; rfl
   | succ m =>
    unfold ni
    rw [hneg, decide_eq_true (show (u : Int) < 10 by omega), e]; rfl
  ·cases k with
   | zero => exact absurd (by simpa using h3) hs
   | succ k =>
    obtain ⟨m, rfl⟩ : ∃ j, m = j + 1 := ⟨m - 1, by omega⟩
    have hd : u / 10 < 10 ^ (k + 1) := by rw [Nat.pow_succ] at h3; omega
    have ih := apH (N := N) k m (u / 10) (by omega) (by omega) hd
    have hlen := O1 (k := k) hd
    rw [Lib.decDigits, dif_neg hs]
    unfold ni
    rw [hneg, decide_eq_false (show ¬ (u : Int) < 10 by omega)]
    have e1 : IntKind.i64.wrap ((u : Int).tdiv 10) = ((u / 10 : Nat) : Int) := by
     rw [show (u : Int).tdiv 10 = ((u / 10 : Nat) : Int) from rfl, wr (by omega) (by omega)]
    have e2 : (u : Int).tmod 10 = ((u % 10 : Nat) : Int) := rfl
    rw [e1, e2, ak ih, adv (n := ((u % 10 : Nat) : Int)) (by omega) (by omega)]
    simp only [cond_false, List.length_cons, List.length_nil, Int.toNat_natCast]
    rw [decide_eq_true (show (Lib.decDigits (u / 10)).length + (0 + 1) ≤ lim by omega)]
    rfl
theorem Nk {N : Nat} {n : Int} (h0 : 0 ≤ n) (h1 : n < 1000000000000000000) : uX N n = some (Lib.itoa n) := by
 obtain ⟨u, rfl⟩ := Int.eq_ofNat_of_zero_le h0
 unfold uX Lib.itoa
 rw [if_neg (by omega)]
 exact apH 17 64 u (by omega) (by omega) (by simpa using Int.ofNat_lt.1 h1)
theorem nV {N : Nat} {n : Int} (h0 : 0 ≤ n) (h1 : n < 1000000000000000000) : strconv_Itoa N n = some (Lib.itoa n) := by
 unfold strconv_Itoa
 rw [decide_eq_true (show -9223372036854775808 ≤ n by omega), decide_eq_true (show n ≤ 9223372036854775807 by omega)]
 rfl
theorem dY {n : Int} (h0 : 0 ≤ n) (h1 : n < 1000000000000000000) : (Lib.itoa n).length ≤ 18 := by
 obtain ⟨u, rfl⟩ := Int.eq_ofNat_of_zero_le h0
 unfold Lib.itoa
 rw [if_neg (by omega)]
 exact O1 (k := 17) (by simpa using Int.ofNat_lt.1 h1)
end Go.MC
namespace Go.MC
open Go.MC.F
theorem aoy {l : List Txt} {i : Nat} (h : i < l.length) : Lib.join (l.take (i + 1)) [44] = bif decide ((i : Int) > 0) then Lib.join (l.take i) [44] ++ [44] ++ l[i] else Lib.join (l.take i) [44] ++ l[i] := by
 cases l with
 | nil => simp at h
 | cons x r =>
  cases i with
  | zero => simp [Lib.join_one, Lib.join_nil]
  | succ k =>
   have hk : k < r.length := by simpa using h
   have e : decide (((k + 1 : Nat) : Int) > 0) = true := decide_eq_true (by omega)
   rw [e, cond_true, List.take_succ_cons, List.take_succ_cons, Lib.join_cons, Lib.join_cons, Lib.joinTail_take_succ [44] r k r[k] (List.getElem?_eq_getElem hk)]
   simp
theorem OT {l : List Txt} {B : Nat} (h : ∀ x ∈ l, x.length ≤ B) : (Lib.join l [44]).length ≤ l.length * (B + 1) := by
 cases l with
 | nil => simp [Lib.join_nil]
 | cons x r =>
  have hs : ∀ (l : List Txt), (∀ x ∈ l, x.length ≤ B) → Lib.lens l ≤ l.length * B := by
   intro l
   induction l with
   | nil => intro _; simp [Lib.lens]
   | cons y l ih =>
    intro h
    have h1 := h y (by simp)
    have h2 := ih fun x hx => h x (by simp [hx])
    have e : Lib.lens (y :: l) = y.length + Lib.lens l := by simp [Lib.lens]
    rw [e, List.length_cons, Nat.add_mul]
    omega
  have := hs _ h
  rw [Lib.join_length, Nat.mul_add]
  simp only [List.length_cons, List.length_nil] at this ⊢
  omega
theorem Rq {N : Nat} {l : List Txt} (hl : l.length ≤ 1000) (hx : ∀ x ∈ l, x.length ≤ 1000) : ∀ (d n i : Nat), i + d = l.length → d < n → Au N l [44] n (Lib.join (l.take i) [44]) (i : Int) = some (bif Lib.join l [44] == [] then [45] else Lib.join l [44]) := by
 have hlim := aQ
 intro d
 induction d with
 | zero =>
  intro n i h1 h2
  obtain ⟨n, rfl⟩ : ∃ j, n = j + 1 := ⟨n - 1, by omega⟩
  show uK N l [44] (Au N l [44] n) (Lib.join (l.take i) [44]) (i : Int) = _
  have hi : i = l.length := by omega
  subst hi
  unfold uK
  rw [di, cond_false, List.take_length]
  cases Lib.join l [44] == [] <;> rfl
 | succ d ih =>
  intro n i h1 h2
  obtain ⟨n, rfl⟩ : ∃ j, n = j + 1 := ⟨n - 1, by omega⟩
  show uK N l [44] (Au N l [44] n) (Lib.join (l.take i) [44]) (i : Int) = _
  have hi : i < l.length := by omega
  have hj : (Lib.join (l.take i) [44]).length ≤ 1001000 := by
   have h1 := OT (l := l.take i) (B := 1000) fun x hm => hx x (List.mem_of_mem_take hm)
   have h2 : (l.take i).length ≤ 1000 := by rw [List.length_take]; omega
   have h3 : (l.take i).length * (1000 + 1) ≤ 1000 * 1001 := Nat.mul_le_mul_right _ h2
   omega
  have hxi := hx l[i] (List.getElem_mem hi)
  have ih := ih n (i + 1) (by omega) (by omega)
  rw [aoy hi] at ih
  unfold uK
  simp only [dlt hi, dge, cond_true, gAt hi, wrS (show i ≤ 1000000000000000000 by omega), List.length_append, List.length_cons, List.length_nil]
  rw [decide_eq_true (show (Lib.join (l.take i) [44]).length + (0 + 1) ≤ lim by omega), decide_eq_true (show (Lib.join (l.take i) [44]).length + (0 + 1) + l[i].length ≤ lim by omega), decide_eq_true (show (Lib.join (l.take i) [44]).length + l[i].length ≤ lim by omega)]
  simp only [cond_true]
  cases hd : decide ((i : Int) > 0) with
  | true => rw [hd] at ih; exact ih
  | false => rw [hd] at ih; exact ih
theorem amy {l : List Txt} (hn : l ≠ []) (h : ∀ x ∈ l, x ≠ []) : Lib.join l [44] ≠ [] := by
 cases l with
 | nil => exact absurd rfl hn
 | cons x r =>
  rw [Lib.join_cons]
  intro e
  exact h x (by simp) (List.append_eq_nil_iff.1 e).1
theorem Ti {N : Nat} (hN : lim < N) {l : List Txt} (hl : l.length ≤ 1000) (hx : ∀ x ∈ l, x.length ≤ 1000) (hne : ∀ x ∈ l, x ≠ []) : UN N l [44] = some (y9 l) := by
 have hlim := aQ
 have h := Rq (N := N) hl hx l.length N 0 (by omega) (by omega)
 have h : UN N l [44] = some (bif Lib.join l [44] == [] then [45] else Lib.join l [44]) := h
 rw [h]
 unfold y9
 cases l with
 | nil => rfl
 | cons x r =>
  have := amy (l := x :: r) (by simp) hne
  rw [show (Lib.join (x :: r) [44] == []) = false from beq_eq_false_iff_ne.2 this]
  rfl
theorem SB {N : Nat} {l : List Txt} (hl : l.length ≤ 1000) (hx : ∀ x ∈ l, x.length ≤ 1000) : DF N l = some (y9 l) := by
 have hlim := aQ
 have hj := OT (B := 1000) hx
 have hj2 : l.length * (1000 + 1) ≤ 1000 * 1001 := Nat.mul_le_mul_right _ hl
 unfold DF y9
 cases l with
 | nil => rfl
 | cons x r =>
  have e : (((x :: r).length : Int) == 0) = false := by rw [beq_eq_false_iff_ne, List.length_cons]; omega
  have hJ : strings_Join N (x :: r) [44] = some (Lib.join (x :: r) [44]) := by
   unfold strings_Join
   rw [decide_eq_true (show (Lib.join (x :: r) [44]).length ≤ lim by omega)]; rfl
  rw [e, ak hJ]
  rfl
theorem yK {l : List Txt} {B : Nat} (hx : ∀ x ∈ l, x.length ≤ B) : (y9 l).length ≤ l.length * (B + 1) + 1 := by
 unfold y9
 cases l with
 | nil => show ([45] : Txt).length ≤ _; simp
 | cons x r => exact Nat.le_succ_of_le (OT hx)
def ZE (l : List Int) : Txt := y9 (l.map Lib.itoa)
theorem Oe (u : Nat) : Lib.decDigits u ≠ [] := by
 rw [Lib.decDigits]
 split <;> simp
theorem anw {n : Int} (h0 : 0 ≤ n) : Lib.itoa n ≠ [] := by
 unfold Lib.itoa
 rw [if_neg (by omega)]
 exact Oe _
theorem ww {l : List Int} (h : ∀ n ∈ l, 0 ≤ n ∧ n ≤ 1000000) : (∀ x ∈ l.map Lib.itoa, x.length ≤ 18) ∧ ∀ x ∈ l.map Lib.itoa, x ≠ [] := by
 refine ⟨fun x hx => ?_, fun x hx => ?_⟩
 ·obtain ⟨n, hn, rfl⟩ := List.mem_map.1 hx
  have := h n hn
  exact dY (by omega) (by omega)
 ·obtain ⟨n, hn, rfl⟩ := List.mem_map.1 hx
  exact anw (h n hn).1
theorem aq4 {N : Nat} (hN : lim < N) {l : List Int} (hl : l.length ≤ 1000) (h : ∀ n ∈ l, 0 ≤ n ∧ n ≤ 1000000) : ach N l = some (ZE l) := by
 have hlim := aQ
 obtain ⟨h1, h2⟩ := ww h
 unfold ach ahZ
 refine (Ed (l := l) Lib.itoa (fun out => ob (UN N out [44]) [] fun r_1 => some r_1) (fun g i out hi ho => ?_) (fun g out => ?_) (by omega)).trans ?_
 ·have hn := h l[i] (List.getElem_mem hi)
  unfold FM
  simp only [dlt hi, dge, cond_true, gAt hi, wrS (show i ≤ 1000000000000000000 by omega)]
  rw [ak (Nk (by omega) (by omega)), decide_eq_true (show (out.length + 1) * 16 ≤ lim by omega), cond_true]
 ·unfold FM
  rw [di]; rfl
 ·rw [ak (Ti hN (by simpa using hl) (fun x hx => Nat.le_trans (h1 x hx) (by decide)) h2)]
  rfl
def lJ (old b : Book) : Book × Txt := bif aS b then (b, [111, 107]) else (old, [110, 111])
theorem TG {N : Nat} (hN : lim < N) (old : Book) {b : Book} (hb : smB b) : NV N old b = some (lJ old b) := by
 unfold NV lJ
 rw [ak (jr hN hb)]
 cases aS b <;> rfl
theorem um {N : Nat} (hN : lim < N) (old : Book) {b : Book} (hb : smB b) : UX N old b = some ((lJ old b).2, (lJ old b).1) := by
 unfold UX lJ
 rw [ak (jm hN hb)]
 cases aS b <;> rfl
def iO (r : Book × Int) : Book × Txt := (r.1, [99, 111, 100, 101, 32] ++ Lib.itoa r.2)
theorem WQ {N : Nat} (b : Book) {code : Int} (h0 : 0 ≤ code) (h1 : code ≤ 1000000) : BD N b code = some (iO (b, code)) := by
 have hlim := aQ
 have hl := dY (n := code) h0 (by omega)
 unfold BD
 rw [ak (Nk h0 (by omega))]
 simp only [List.length_cons, List.length_nil]
 rw [decide_eq_true (by omega)]
 rfl
theorem IW {N : Nat} (old b : Book) {code : Int} (h0 : 0 ≤ code) (h1 : code ≤ 1000000) (hne : code = 1 → b = old) : zS N old b code = some ((iO (b, code)).2, (iO (b, code)).1) := by
 have hlim := aQ
 have hl := dY (n := code) h0 (by omega)
 unfold zS
 simp only [ak (nV (N := N) h0 (show code < 1000000000000000000 by omega)), List.length_cons, List.length_nil]
 rw [decide_eq_true (by omega)]
 cases hc : code != 1 with
 | true => rfl
 | false =>
  have : code = 1 := by simpa using hc
  rw [hne this]
  rfl
theorem Vo {N : Nat} (hN : lim < N) (kind : Int) {st : Txt} {ws : List Txt} (hl : 4 ≤ ws.length) (hst : st.length ≤ 1000000) (hws : ∀ x ∈ ws, x.length ≤ 1000000) :
 Ik N kind st ws = some (lh (ws.getD 0 []), kind, namesT st, vG (ws.getD 1 []), namesT (ws.getD 2 []), namesT (ws.getD 3 [])) := by
 have hg : ∀ k, k < 4 → (ws.getD k []).length ≤ 1000000 := fun k hk => by
  rw [getD_at (show k < ws.length by omega)]
  exact hws _ (List.getElem_mem _)
 unfold Ik
 simp only [decide_eq_true (show (0 : Int) < (ws.length : Int) by omega), decide_eq_true (show (1 : Int) < (ws.length : Int) by omega), decide_eq_true (show (2 : Int) < (ws.length : Int) by omega), decide_eq_true (show (3 : Int) < (ws.length : Int) by omega), cond_true]
 rw [ak (h_ hN _), ak (qR hN (by omega))]
 have g1 := hg 1 (by omega)
 have g2 := hg 2 (by omega)
 have g3 := hg 3 (by omega)
 rw [ak (apT hN (s := ws.getD (Int.toNat 1) []) g1), ak (qR hN (s := ws.getD (Int.toNat 2) []) (show (ws.getD 2 []).length ≤ 1048576 by omega)), ak (qR hN (s := ws.getD (Int.toNat 3) []) (show (ws.getD 3 []).length ≤ 1048576 by omega))]
 rfl
def showT (b : Book) (n : Txt) : Txt := bif decide (atB b n < 0) then [110, 111, 110, 101] else Lib.itoa (bG b n).2.2.1 ++ [45] ++ Lib.itoa (bG b n).2.2.2.1 ++ [32, 111, 102, 32] ++ Lib.itoa (bG b n).2.1 ++ [32] ++ y9 (bG b n).2.2.2.2
theorem ahO (b : Book) {n : Txt} (h : 0 ≤ atB b n) : ∃ k : Nat, atB b n = (k : Int) ∧ ∃ hk : k < b.2.1.length, bG b n = b.2.1[k] := by
 obtain ⟨j, hj, h1, _⟩ := xR (p := fun s : aP => s.1 == n) (l := b.2.1) (i := 0) h
 have h1 : atB b n = ((0 + j : Nat) : Int) := h1
 rw [Nat.zero_add] at h1
 refine ⟨j, h1, hj, ?_⟩
 unfold bG
 rw [h1, Int.toNat_natCast]
 exact getD_at hj _
theorem Pi {b : Book} (h : aS b = true) {s : aP} (hs : s ∈ b.2.1) : (0 ≤ s.2.1 ∧ s.2.1 ≤ 1000) ∧ (0 ≤ s.2.2.1 ∧ s.2.2.1 ≤ 1000) ∧ (0 ≤ s.2.2.2.1 ∧ s.2.2.2.1 ≤ 1000) ∧ s.2.2.2.2.length ≤ 8 ∧ (∀ x ∈ s.2.2.2.2, x.length ≤ 8) ∧ ∀ x ∈ s.2.2.2.2, x ≠ [] := by
 have o := dX.1 h
 obtain ⟨_, h2, h3, h4, _⟩ := gm.1 (o.so s hs)
 obtain ⟨h5, h6, _⟩ := yQ.1 h4
 refine ⟨h2, ⟨h3.1, by omega⟩, ⟨by omega, by omega⟩, by omega, fun x hx => Lr (h6 x hx), fun x hx e => ?_⟩
 have := h6 x hx
 rw [e] at this
 revert this
 decide
theorem aqB {N : Nat} (hN : lim < N) {b : Book} (h : aS b = true) (n : Txt) : ahA N b n = some (showT b n) := by
 have hlim := aQ
 have hs := sH h
 unfold ahA showT
 rw [ak (wI hN hs.2.1.1 n)]
 cases hn : decide (atB b n < 0) with
 | true => rfl
 | false =>
  have h0 : 0 ≤ atB b n := by have := of_decide_eq_false hn; omega
  obtain ⟨k, hk, hlt, hsp⟩ := ahO b h0
  obtain ⟨a1, a2, a3, a4, a5, a6⟩ := Pi h (List.getElem_mem hlt)
  have l1 := dY a1.1 (by omega)
  have l2 := dY a2.1 (by omega)
  have l3 := dY a3.1 (by omega)
  have l4 := yK a5
  have l5 : b.2.1[k].2.2.2.2.length * (8 + 1) ≤ 8 * 9 := Nat.mul_le_mul_right _ a4
  rw [hsp, hk]
  simp only [dlt hlt, dge, cond_true, cond_false, gAt hlt]
  simp only [ak (Nk (N := N) a2.1 (show b.2.1[k].2.2.1 < 1000000000000000000 by omega)), ak (Nk (N := N) a3.1 (show b.2.1[k].2.2.2.1 < 1000000000000000000 by omega)), ak (Nk (N := N) a1.1 (show b.2.1[k].2.1 < 1000000000000000000 by omega)), ak (Ti hN (l := b.2.1[k].2.2.2.2) (by omega) (fun x hx => Nat.le_trans (a5 x hx) (by decide)) a6), List.length_append, List.length_cons, List.length_nil]
  rw [decide_eq_true (by omega), decide_eq_true (by omega), decide_eq_true (by omega), decide_eq_true (by omega), decide_eq_true (by omega), decide_eq_true (by omega)]
  rfl
end Go.MC
namespace Go.MC
open Go.MC.F
def yC (b : Book) (v : Txt) : Int := bif aS b then ((b.2.2.2.1.find? fun p => !p.2 && p.1.2.2.2.2.1.contains v).map fun p => p.1.1).getD 0 else 0
theorem an8 {N : Nat} (hN : lim < N) {b : Book} (hb : smB b) (v : Txt) : aaX N b v = some (yC b v) := by
 have hlim := aQ
 have hlp := hb.2.2.2.1
 unfold aaX ahb yC
 rw [ak (jr hN hb)]
 cases aS b with
 | false => rfl
 | true =>
  refine ut b.2.2.2.1 _ (fun p => !p.2 && p.1.2.2.2.2.1.contains v) (fun p => p.1.1) 0 (fun g i hi => ?_) (fun g => ?_) N (by omega)
  ·have h1 : b.2.2.2.1[i].1.2.2.2.2.1.length ≤ 1048576 := (hb.2.2.2.2 _ (List.getElem_mem hi)).2.2.1.1
   unfold EL
   simp only [dlt hi, dge, gAt hi, cond_true, wrS (show i ≤ 1000000000000000000 by omega)]
   rw [ak (Gf hN (show b.2.2.2.1[i].1.2.2.2.2.1.length ≤ lim by omega) v)]
   cases b.2.2.2.1[i].2 <;> cases b.2.2.2.1[i].1.2.2.2.2.1.contains v <;> rfl
  ·unfold EL
   rw [di]; rfl
theorem amo {N : Nat} (hN : lim < N) {b : Book} (hb : smB b) (v : Txt) : agO N b v = some (yC b v) := by
 have hlim := aQ
 have hlp := hb.2.2.2.1
 unfold agO ag3 yC
 rw [ak (jm hN hb)]
 cases aS b with
 | false => rfl
 | true =>
  refine ut b.2.2.2.1 _ (fun p => !p.2 && p.1.2.2.2.2.1.contains v) (fun p => p.1.1) 0 (fun g i hi => ?_) (fun g => ?_) N (by omega)
  ·have h1 : b.2.2.2.1[i].1.2.2.2.2.1.length ≤ 1048576 := (hb.2.2.2.2 _ (List.getElem_mem hi)).2.2.1.1
   unfold EZ
   simp only [dlt hi, dge, gAt hi, cond_true, wrS (show i ≤ 1000000000000000000 by omega)]
   rw [ak (fK hN (show b.2.2.2.1[i].1.2.2.2.2.1.length ≤ lim by omega) v)]
   cases b.2.2.2.1[i].2 <;> cases b.2.2.2.1[i].1.2.2.2.2.1.contains v <;> rfl
  ·unfold EZ
   rw [di]; rfl
end Go.MC
namespace Go.MC
open Go.MC.F
theorem akf {α β : Type} {l : List α} {rd : (Int → List β → Option (List β)) → Int → List β → Option (List β)} (p : α → Bool) (f : α → β)
 (hstep : ∀ (g : Int → List β → Option (List β)) (i : Nat) (out : List β) (h : i < l.length), out.length ≤ i → rd g (i : Int) out = bif p l[i] then g ((i + 1 : Nat) : Int) (out ++ [f l[i]]) else g ((i + 1 : Nat) : Int) out)
 (hend : ∀ (g : Int → List β → Option (List β)) (out : List β), rd g (l.length : Int) out = some out) {N : Nat} (hN : l.length < N) : lp (fun _ _ => none) rd N 0 [] = some ((l.filter p).map f) := by
 have := eQ l (fun (g : Int → List β → Option (List β)) i (d : List β) => g (i : Int) d) (fun _ _ => none) rd (fun i d x => .inl (bif p x then d ++ [f x] else d)) (fun d => some d) (fun i d => d.length ≤ i)
  (fun g i st h hi => ⟨by
   rw [hstep g i st h hi]
   cases p l[i] <;> rfl, fun st' hs => by cases hs; cases p l[i] <;> simp <;> omega⟩) (fun g d hd => hend g d) N hN [] (by simp)
 refine this.trans ?_
 have : ∀ (l : List α) i (d : List β), outW (fun d => some d) (dL (fun i (d : List β) x => (Sum.inl (bif p x then d ++ [f x] else d) : List β ⊕ Option (List β))) i l d) = some (d ++ (l.filter p).map f) := by
  intro l
  induction l with
  | nil => intro i d; simp [dL, outW]
  | cons x xs ih =>
   intro i d
   simp only [dL]
   rw [ih]
   cases hx : p x <;> simp [List.filter_cons, hx]
 rw [this l 0 []]; rfl
def jU (b : Book) (v : Txt) : List Int := bif aS b then (b.2.2.2.1.filter fun p => p.1.2.2.2.2.2.contains v).map fun p => p.1.1 else []
theorem NU (b : Book) (v : Txt) : (jU b v).length ≤ b.2.2.2.1.length := by
 unfold jU
 cases aS b with
 | false => simp
 | true => simp only [cond_true, List.length_map]; exact List.length_filter_le _ _
theorem akA {N : Nat} (hN : lim < N) {b : Book} (hb : smB b) (v : Txt) : aaQ N b v = some (jU b v) := by
 have hlim := aQ
 have hlp := hb.2.2.2.1
 unfold aaQ aiM jU
 rw [ak (jr hN hb)]
 cases aS b with
 | false => rfl
 | true =>
  refine akf (l := b.2.2.2.1) (fun p => p.1.2.2.2.2.2.contains v) (fun p => p.1.1) (fun g i out hi ho => ?_) (fun g out => ?_) (by omega)
  ·have h1 : b.2.2.2.1[i].1.2.2.2.2.2.length ≤ 1048576 := (hb.2.2.2.2 _ (List.getElem_mem hi)).2.2.2.1
   unfold Eo
   have hg : decide ((out.length + [(b.2.2.2.1[i]).1.1].length) * 8 ≤ lim) = true := decide_eq_true (by simp only [List.length_cons, List.length_nil]; omega)
   simp only [dlt hi, dge, gAt hi, cond_true, wrS (show i ≤ 1000000000000000000 by omega), hg]
   rw [ak (Gf hN (show b.2.2.2.1[i].1.2.2.2.2.2.length ≤ lim by omega) v)]
  ·unfold Eo
   rw [di]; rfl
theorem agZ {N : Nat} (hN : lim < N) {b : Book} (hb : smB b) (v : Txt) : ajK N b v = some (jU b v) := by
 have hlim := aQ
 have hlp := hb.2.2.2.1
 unfold ajK ahx jU
 rw [ak (jm hN hb)]
 cases aS b with
 | false => rfl
 | true =>
  refine akf (l := b.2.2.2.1) (fun p => p.1.2.2.2.2.2.contains v) (fun p => p.1.1) (fun g i out hi ho => ?_) (fun g out => ?_) (by omega)
  ·have h1 : b.2.2.2.1[i].1.2.2.2.2.2.length ≤ 1048576 := (hb.2.2.2.2 _ (List.getElem_mem hi)).2.2.2.1
   unfold Ew
   have hg : decide ((out.length + [(b.2.2.2.1[i]).1.1].length) * 8 ≤ lim) = true := decide_eq_true (by simp only [List.length_cons, List.length_nil]; omega)
   simp only [dlt hi, dge, gAt hi, cond_true, wrS (show i ≤ 1000000000000000000 by omega), hg]
   rw [ak (fK hN (show b.2.2.2.1[i].1.2.2.2.2.2.length ≤ lim by omega) v)]
  ·unfold Ew
   rw [di]; rfl
end Go.MC
namespace Go.MC
open Go.MC.F
def lg (sp : List aP) (n : Txt) : Nat := (sp.takeWhile fun s => Op.bytesLess s.1 n).length
theorem afC (sp : List aP) (n : Txt) : lg sp n ≤ sp.length := by
 unfold lg
 exact (List.takeWhile_sublist _).length_le
theorem aaZ {sp : List aP} {n : Txt} {k : Nat} (hk : k < sp.length) (h : Op.bytesLess sp[k].1 n = true) : lg (sp.drop k) n = 1 + lg (sp.drop (k + 1)) n := by
 unfold lg
 rw [List.drop_eq_getElem_cons hk, List.takeWhile_cons, if_pos h, List.length_cons]
 omega
theorem aga {sp : List aP} {n : Txt} {k : Nat} (hk : k < sp.length) (h : Op.bytesLess sp[k].1 n = false) : lg (sp.drop k) n = 0 := by
 unfold lg
 rw [List.drop_eq_getElem_cons hk, List.takeWhile_cons, if_neg (by rw [h]; decide)]
 rfl
def apF (ws : List Txt) : aP := (ws.getD 1 [], lh (ws.getD 2 []), lh (ws.getD 3 []), lh (ws.getD 3 []), namesT (ws.getD 4 []))
def Vf (b : Book) (ws : List Txt) : Book := (b.1, b.2.1.take (lg b.2.1 (ws.getD 1 [])) ++ ([apF ws] ++ b.2.1.drop (lg b.2.1 (ws.getD 1 []))), b.2.2)
def rO (ws : List Txt) : Prop := ∀ x ∈ ws, x.length ≤ 10000
theorem rO.at {ws : List Txt} (h : rO ws) (k : Nat) : (ws.getD k []).length ≤ 10000 := by
 by_cases hk : k < ws.length
 ·rw [getD_at hk]; exact h _ (List.getElem_mem _)
 ·rw [List.getD_eq_getElem?_getD, List.getElem?_eq_none (by omega)]; simp
theorem kN {s : Txt} (h : s.length ≤ 10000) : smL (namesT s) := by
 have := pV s
 refine ⟨by omega, fun x hx => ?_⟩
 have := pY hx
 unfold smT; omega
theorem ac2 {s : Txt} (h : s.length ≤ 10000) : (vG s).length ≤ 1048576 ∧ ∀ u ∈ vG s, smU u := by
 have := pV s
 unfold vG
 refine ⟨by rw [List.length_map]; omega, fun u hu => ?_⟩
 obtain ⟨x, hx, rfl⟩ := List.mem_map.1 hu
 have h1 := pY hx
 have h2 : ∀ c : UInt8, (Lib.cut x [c]).1.length ≤ x.length := fun c => by
  unfold Lib.cut
  split
  ·simp only [List.length_take]; omega
  ·exact Nat.le_refl _
 unfold Ws smU smT
 cases x.count 60 == 1 with
 | true => have := h2 60; show (Lib.cut x [60]).1.length ≤ _; omega
 | false =>
  cases x.count 62 == 1 with
  | true => have := h2 62; show (Lib.cut x [62]).1.length ≤ _; omega
  | false => show x.length ≤ _; omega
theorem jR {b : Book} (h : aS b = true) : b.1.length ≤ 12 ∧ b.2.1.length ≤ 8 ∧ b.2.2.2.1.length ≤ 6 := by
 have o := dX.1 h
 have hf := o.foes
 simp only [ui, Bool.and_eq_true, Bool.not_eq_true', decide_eq_false_iff_not] at hf
 exact ⟨by omega, o.sl, o.pl⟩
theorem Xj {b : Book} (h : aS b = true) {ws : List Txt} (hw : rO ws) : smB (Vf b ws) := by
 obtain ⟨h1, h2, h3⟩ := jR h
 have hs := sH h
 refine ⟨hs.1, ⟨?_, fun s hm => ?_⟩, hs.2.2⟩
 ·show (b.2.1.take _ ++ ([apF ws] ++ b.2.1.drop _)).length ≤ _
  simp only [List.length_append, List.length_take, List.length_drop, List.length_cons, List.length_nil]
  omega
 ·rcases List.mem_append.1 hm with hm | hm
  ·exact hs.2.1.2 s (List.mem_of_mem_take hm)
  ·rcases List.mem_append.1 hm with hm | hm
   ·obtain rfl := List.mem_singleton.1 hm
    have h1 := hw.at 1
    exact ⟨show (ws.getD 1 []).length ≤ 1048576 by omega, kN (hw.at 4)⟩
   ·exact hs.2.1.2 s (List.mem_of_mem_drop hm)
theorem SQ {N : Nat} (hN : lim < N) {b : Book} (h : aS b = true) {ws : List Txt} (hw : rO ws) (hl : ws.length = 5) : ∀ (d n k : Nat), k + d = b.2.1.length → d < n → lg b.2.1 (ws.getD 1 []) = k + lg (b.2.1.drop k) (ws.getD 1 []) →
 CB N b ws b 0 n (k : Int) = some (lJ b (Vf b ws)) := by
 have hlim := aQ
 obtain ⟨hb1, hb2, hb3⟩ := jR h
 have w4 := hw.at 4
 have g : ∀ j : Nat, j < 5 → decide ((j : Int) < (ws.length : Int)) = true := fun j hj => decide_eq_true (by omega)
 have g1 := g 1 (by omega)
 have g2 := g 2 (by omega)
 have g3 := g 3 (by omega)
 have g4 := g 4 (by omega)
 intro d
 -- the place is found
 have body : ∀ k : Nat, k ≤ b.2.1.length → lg b.2.1 (ws.getD 1 []) = k →
  ob (NV N b (b.1, [] ++ List.drop 0 (List.take k b.2.1) ++ [(ws.getD 1 [], lh (ws.getD 2 []), lh (ws.getD 3 []), lh (ws.getD 3 []), namesT (ws.getD 4 []))] ++ List.drop k (List.take b.2.1.length b.2.1), b.2.2)) (([], [], [], [], Int.ofNat 0), []) (fun r_5 => some r_5) = some (lJ b (Vf b ws)) := by
  intro k hk hs
  have e : (b.1, [] ++ List.drop 0 (List.take k b.2.1) ++ [(ws.getD 1 [], lh (ws.getD 2 []), lh (ws.getD 3 []), lh (ws.getD 3 []), namesT (ws.getD 4 []))] ++ List.drop k (List.take b.2.1.length b.2.1), b.2.2) = Vf b ws := by
   unfold Vf
   rw [hs, List.take_length, List.nil_append, List.drop_zero, List.append_assoc]
   rfl
  rw [e, ak (TG hN b (Xj h hw))]
 have sz : ∀ k : Nat, k ≤ b.2.1.length → decide ((0 + (List.drop 0 (List.take k b.2.1)).length) * 64 ≤ lim) = true ∧ decide ((([] ++ List.drop 0 (List.take k b.2.1)).length + 1) * 64 ≤ lim) = true ∧
  ∀ s : aP, decide ((([] ++ List.drop 0 (List.take k b.2.1) ++ [s]).length + (List.drop k (List.take b.2.1.length b.2.1)).length) * 64 ≤ lim) = true := by
  intro k hk
  refine ⟨decide_eq_true ?_, decide_eq_true ?_, fun s => decide_eq_true ?_⟩
  ·simp only [List.drop_zero, List.length_take]; omega
  ·simp only [List.drop_zero, List.length_take, List.nil_append]; omega
  ·simp only [List.drop_zero, List.length_take, List.nil_append, List.length_append, List.length_drop, List.length_cons, List.length_nil]; omega
 induction d with
 | zero =>
  intro n k h1 h2 h3
  obtain ⟨n, rfl⟩ : ∃ j, n = j + 1 := ⟨n - 1, by omega⟩
  show uP N b ws b 0 (CB N b ws b 0 n) (k : Int) = _
  have hk : k = b.2.1.length := by omega
  have hs : lg b.2.1 (ws.getD 1 []) = k := by
   rw [h3, hk, List.drop_length]; rfl
  obtain ⟨s1, s2, s3⟩ := sz k (by omega)
  unfold uP
  rw [show decide ((k : Int) < (b.2.1.length : Int)) = false from decide_eq_false (by omega)]
  simp only [cond_false, show decide ((1 : Int) < (ws.length : Int)) = true from g1, show decide ((2 : Int) < (ws.length : Int)) = true from g2, show decide ((3 : Int) < (ws.length : Int)) = true from g3, show decide ((4 : Int) < (ws.length : Int)) = true from g4, cond_true, dge, dle (show k ≤ b.2.1.length by omega), dle (Nat.le_refl b.2.1.length),
   show Int.toNat 0 = 0 from rfl, show Int.toNat 1 = 1 from rfl, show Int.toNat 2 = 2 from rfl, show Int.toNat 3 = 3 from rfl, show Int.toNat 4 = 4 from rfl, Int.toNat_natCast, ak (h_ (N := N) hN (ws.getD 2 [])), ak (h_ (N := N) hN (ws.getD 3 [])), ak (qR hN (s := ws.getD 4 []) (by omega)), s1, s2, s3]
  exact body k (by omega) hs
 | succ d ih =>
  intro n k h1 h2 h3
  obtain ⟨n, rfl⟩ : ∃ j, n = j + 1 := ⟨n - 1, by omega⟩
  show uP N b ws b 0 (CB N b ws b 0 n) (k : Int) = _
  have hk : k < b.2.1.length := by omega
  obtain ⟨s1, s2, s3⟩ := sz k (by omega)
  unfold uP
  rw [dlt hk]
  simp only [show decide ((1 : Int) < (ws.length : Int)) = true from g1, show decide ((2 : Int) < (ws.length : Int)) = true from g2, show decide ((3 : Int) < (ws.length : Int)) = true from g3, show decide ((4 : Int) < (ws.length : Int)) = true from g4, cond_true, dge, dlt hk, gAt hk, wrS (show k ≤ 1000000000000000000 by omega), dle (show k ≤ b.2.1.length by omega), dle (Nat.le_refl b.2.1.length),
   show Int.toNat 0 = 0 from rfl, show Int.toNat 1 = 1 from rfl, show Int.toNat 2 = 2 from rfl, show Int.toNat 3 = 3 from rfl, show Int.toNat 4 = 4 from rfl, Int.toNat_natCast, ak (h_ (N := N) hN (ws.getD 2 [])), ak (h_ (N := N) hN (ws.getD 3 [])), ak (qR hN (s := ws.getD 4 []) (by omega)), s1, s2, s3]
  have hg : List.getD b.2.1 k az = b.2.1[k] := getD_at hk _
  rw [hg]
  cases hb : Op.bytesLess b.2.1[k].1 (ws.getD 1 []) with
  | true =>
   simp only [cond_true]
   exact ih n (k + 1) (by omega) (by omega) (by rw [h3, aaZ hk hb]; omega)
  | false =>
   simp only [cond_false]
   exact body k (by omega) (by rw [h3, aga hk hb]; rfl)
theorem aqV {N : Nat} (hN : lim < N) {b : Book} (h : aS b = true) {ws : List Txt} (hw : rO ws) (hl : ws.length = 5) : aiK N b ws = some (lJ b (Vf b ws)) := by
 have hlim := aQ
 obtain ⟨hb1, hb2, hb3⟩ := jR h
 unfold aiK af5
 rw [ak (oU hN (sH h))]
 exact SQ hN h hw hl b.2.1.length N 0 (by omega) (by omega) (by simp)
end Go.MC
namespace Go.MC
open Go.MC.F
theorem xe {α : Type} (p : α → Bool) (d : α) : ∀ (l : List α), l.Pairwise (fun a b => p b = true → p a = true) → (List.range l.length).countP (fun i => p (l.getD i d)) = (l.takeWhile p).length
 | [], _ => rfl
 | x :: l, h => by
  obtain ⟨h1, h2⟩ := List.pairwise_cons.1 h
  rw [List.length_cons, List.range_succ_eq_map, List.countP_cons, List.countP_map, List.takeWhile_cons]
  have e : ((fun i => p ((x :: l).getD i d)) ∘ Nat.succ) = fun i => p (l.getD i d) := by
   funext i
   simp [Function.comp]
  rw [e, xe p d l h2]
  have e0 : (x :: l).getD 0 d = x := rfl
  rw [e0]
  cases hx : p x with
  | true => simp
  | false =>
   have : l.takeWhile p = [] := by
    cases l with
    | nil => rfl
    | cons y l =>
     have hy : ¬ p y = true := fun hy => by
      have := h1 y (by simp) hy
      rw [hx] at this; cases this
     rw [List.takeWhile_cons, if_neg hy]
   rw [this]
   simp
theorem aj2 {sp : List aP} (h : Asc (sp.map (·.1))) (n : Txt) : sp.Pairwise (fun a b => Op.bytesLess b.1 n = true → Op.bytesLess a.1 n = true) := by
 have := List.pairwise_map.1 h
 exact this.imp fun hab hb => gY hab hb
theorem agS {N : Nat} {b : Book} (h : aS b = true) {ws : List Txt} (hl : 1 < ws.length) : dh N ((b.2.1.length : Nat) : Int) b ws = some ((lg b.2.1 (ws.getD 1 []) : Nat) : Int) := by
 obtain ⟨hb1, hb2, hb3⟩ := jR h
 have o := dX.1 h
 have hp := aj2 o.sa (ws.getD 1 [])
 unfold dh
 have hm : ((List.range ((b.2.1.length : Nat) : Int).toNat).all fun i => (List.range ((b.2.1.length : Nat) : Int).toNat).all fun j => !(decide (i ≤ j) && kD b ws i) || kD b ws j) = true := by
  rw [Int.toNat_natCast]
  refine List.all_eq_true.2 fun i hi => List.all_eq_true.2 fun j hj => ?_
  have hi := List.mem_range.1 hi
  have hj := List.mem_range.1 hj
  cases hij : decide (i ≤ j) with
  | false => rfl
  | true =>
   have hij := of_decide_eq_true hij
   unfold kD
   rw [getD_at hi, getD_at hj]
   cases hlj : Op.bytesLess b.2.1[j].1 (ws.getD 1 []) with
   | false => simp
   | true =>
    have : Op.bytesLess b.2.1[i].1 (ws.getD 1 []) = true := by
     rcases Nat.lt_or_ge i j with hlt | hge
     ·exact List.pairwise_iff_getElem.1 hp i j hi hj hlt hlj
     ·have : i = j := by omega
      subst this; exact hlj
    rw [this]; rfl
 rw [hm, decide_eq_true (show (0 : Int) ≤ (b.2.1.length : Int) by omega), decide_eq_true (show (b.2.1.length : Int) ≤ (b.2.1.length : Int) by omega), decide_eq_true (show (b.2.1.length : Int) < 4611686018427387904 by omega), decide_eq_true hl]
 simp only [Bool.and_self, cond_true]
 have := xe (fun s : aP => Op.bytesLess s.1 (ws.getD 1 [])) (Ty.dflt aZ) b.2.1 hp
 unfold lg
 rw [← this, Int.toNat_natCast]
 congr 2
 refine List.countP_congr fun i _ => ?_
 unfold kD
 simp
theorem anP {N : Nat} {sp : List aP} {k : Nat} (hk : k ≤ sp.length) (hl : sp.length ≤ 8) (s : aP) : bW N sp (k : Int) [s] = some (sp.take k ++ ([s] ++ sp.drop k)) := by
 have hlim := aQ
 unfold bW
 rw [decide_eq_true (show (0 : Int) ≤ (k : Int) by omega), decide_eq_true (show (k : Int) ≤ (sp.length : Int) by omega), decide_eq_true (show 0 < [s].length by simp), decide_eq_true (show (sp.length + [s].length) * 64 ≤ lim by simp; omega)]
 rfl
def vX (x : Int) : Prop := x = 0 ∨ (2 ≤ x ∧ x ≤ 20)
theorem Tf {f : Use → Int} (h : ∀ u, vX (f u)) (l : List Use) : vX (first f l) := by
 unfold first
 cases l.find? fun u => f u != 0 with
 | none => exact .inl rfl
 | some u => exact h u
theorem gG {c : Bool} {x y : Int} (hx : vX x) (hy : vX y) : vX (bif c then x else y) := by
 cases c
 ·exact hy
 ·exact hx
theorem cd (n : Nat) (h : n = 0 ∨ (2 ≤ n ∧ n ≤ 20)) : vX (n : Int) := h.imp (fun h => by omega) fun h => by omega
theorem alS {b : Book} (h : aS b = true) (w : Want) : vX (cO b w) := by
 have hs : vX (dU b w) := gG (cd 8 (by omega)) (gG (Tf (fun u => gG (gG (cd 8 (by omega)) (gG (cd 5 (by omega)) (cd 0 (by omega)))) (gG (cd 0 (by omega)) (cd 8 (by omega)))) _) (cd 0 (by omega)))
 have ha : vX (ik b w) := Tf (fun u => gG (cd 9 (by omega)) (gG (cd 10 (by omega)) (gG (cd 11 (by omega)) (cd 0 (by omega))))) _
 unfold cO
 rw [h, Bool.not_true, cond_false]
 exact gG (cd 2 (by omega)) (gG (cd 2 (by omega)) (gG (gG (cd 0 (by omega)) (cd 3 (by omega))) (gG (cd 4 (by omega)) (gG (cd 5 (by omega)) (gG (cd 6 (by omega)) (gG (cd 7 (by omega)) (gG hs ha)))))))
theorem iM {x : Int} (h : vX x) : 0 ≤ x ∧ x ≤ 1000000 ∧ x ≠ 1 := by unfold vX at h; omega
theorem uk {b : Book} (h : aS b = true) (w : Want) : vX (gQ b w).2 := by
 have hc := alS h w
 unfold gQ
 have h1 : (cO b w == 1) = false := beq_eq_false_iff_ne.2 (iM hc).2.2
 rw [h1]
 cases inB (cO b w) 2 4
 ·cases decide (partAt b w.1 ≥ 0)
  ·cases cO b w == 0 <;> exact hc
  ·exact hc
 ·exact hc
theorem PL {b : Book} (h : aS b = true) (n : Int) : vX (kC b n).2 := by
 unfold kC
 rw [h]
 cases decide (partAt b n < 0)
 ·exact cd 0 (by omega)
 ·exact cd 3 (by omega)
theorem E8 {b : Book} (h : aS b = true) (n moved : Int) (done : Bool) : vX (jT b n moved done).2 := by
 unfold jT
 rw [h]
 cases decide (partAt b n < 0)
 ·cases !jD (bJ b n).1 moved
  ·cases !(bJ b n).2
   ·exact cd 0 (by omega)
   ·exact cd 12 (by omega)
  ·exact cd 2 (by omega)
 ·exact cd 3 (by omega)
theorem QR {b : Book} (h : aS b = true) {p : Part} (hp : p ∈ b.2.2.2.1) : 1 ≤ p.1.1 ∧ p.1.1 ≤ 1000000 := QN (vT h hp).1
theorem Py {b : Book} (h : aS b = true) (v : Txt) : 0 ≤ yC b v ∧ yC b v ≤ 1000000 := by
 unfold yC
 rw [h]
 cases hf : b.2.2.2.1.find? fun p => !p.2 && p.1.2.2.2.2.1.contains v with
 | none => decide
 | some p =>
  have := QR h (List.mem_of_find?_eq_some hf)
  show 0 ≤ p.1.1 ∧ p.1.1 ≤ 1000000
  omega
theorem Gn {b : Book} (h : aS b = true) (v : Txt) : (jU b v).length ≤ 6 ∧ ∀ n ∈ jU b v, 0 ≤ n ∧ n ≤ 1000000 := by
 have h6 := (jR h).2.2
 have := NU b v
 refine ⟨by omega, fun n hn => ?_⟩
 unfold jU at hn
 rw [h] at hn
 obtain ⟨p, hp, rfl⟩ := List.mem_map.1 hn
 have := QR h (List.mem_filter.1 hp).1
 omega
def Ib (b : Book) (v : Txt) : Txt := Lib.itoa (yC b v) ++ [32] ++ ZE (jU b v)
theorem FQ {b : Book} (h : aS b = true) (v : Txt) : (ZE (jU b v)).length ≤ 115 := by
 obtain ⟨h1, h2⟩ := Gn h v
 obtain ⟨h3, _⟩ := ww h2
 have := yK h3
 have h4 : ((jU b v).map Lib.itoa).length * (18 + 1) ≤ 6 * 19 := Nat.mul_le_mul_right _ (by rw [List.length_map]; exact h1)
 unfold ZE
 omega
end Go.MC
namespace Go.MC
open Go.MC.F
def lm (b : Book) (ws : List Txt) : Book × Txt :=
 bif ws.getD 0 [] == [102, 111, 101] && (ws.length : Int) == 3 then lJ b (b.1 ++ [(ws.getD 1 [], ws.getD 2 [])], b.2) else
 bif ws.getD 0 [] == [115, 112, 111, 116] && (ws.length : Int) == 5 then lJ b (Vf b ws) else
 bif ws.getD 0 [] == [118, 97, 108, 118, 101, 115] && (ws.length : Int) == 2 then lJ b (b.1, b.2.1, namesT (ws.getD 1 []), b.2.2.2) else
 bif ws.getD 0 [] == [109, 111, 118, 101] && (ws.length : Int) == 6 then iO (gQ b (lh (ws.getD 2 []), 1, namesT (ws.getD 1 []), vG (ws.getD 3 []), namesT (ws.getD 4 []), namesT (ws.getD 5 []))) else
 bif ws.getD 0 [] == [99, 108, 101, 97, 110] && (ws.length : Int) == 5 then iO (gQ b (lh (ws.getD 1 []), 2, [], vG (ws.getD 2 []), namesT (ws.getD 3 []), namesT (ws.getD 4 []))) else
 bif ws.getD 0 [] == [112, 101, 114, 109, 105, 116] && (ws.length : Int) == 5 then iO (gQ b (lh (ws.getD 1 []), 3, [], vG (ws.getD 2 []), namesT (ws.getD 3 []), namesT (ws.getD 4 []))) else
 bif ws.getD 0 [] == [115, 116, 111, 112] && (ws.length : Int) == 2 then iO (kC b (lh (ws.getD 1 []))) else
 bif ws.getD 0 [] == [111, 118, 101, 114] && (ws.length : Int) == 3 then iO (jT b (lh (ws.getD 1 [])) (lh (ws.getD 2 [])) false) else
 bif ws.getD 0 [] == [99, 108, 101, 97, 110, 101, 100] && (ws.length : Int) == 2 then iO (jT b (lh (ws.getD 1 [])) 0 true) else
 bif ws.getD 0 [] == [115, 104, 111, 119] && (ws.length : Int) == 2 then (b, showT b (ws.getD 1 [])) else
 bif ws.getD 0 [] == [118, 97, 108, 118, 101] && (ws.length : Int) == 2 then (b, Ib b (ws.getD 1 [])) else (b, [98, 97, 100])
theorem eX {a : Bool} {n k : Nat} (h : (a && ((n : Int) == (k : Int))) = true) : n = k := by
 simp only [Bool.and_eq_true, beq_iff_eq] at h
 omega
theorem ad5 {b : Book} (h : aS b = true) {ws : List Txt} (hw : rO ws) : smB (b.1 ++ [(ws.getD 1 [], ws.getD 2 [])], b.2) := by
 obtain ⟨h1, h2, h3⟩ := jR h
 have hs := sH h
 have w1 := hw.at 1
 have w2 := hw.at 2
 refine ⟨⟨by show (b.1 ++ [(ws.getD 1 [], ws.getD 2 [])]).length ≤ _; simp only [List.length_append, List.length_cons, List.length_nil]; omega, fun f hf => ?_⟩, hs.2⟩
 rcases List.mem_append.1 hf with hf | hf
 ·exact hs.1.2 f hf
 ·obtain rfl := List.mem_singleton.1 hf
  exact ⟨show (ws.getD 1 []).length ≤ 1048576 by omega, show (ws.getD 2 []).length ≤ 1048576 by omega⟩
theorem M_ {b : Book} (h : aS b = true) {ws : List Txt} (hw : rO ws) : smB (b.1, b.2.1, namesT (ws.getD 1 []), b.2.2.2) := by
 have hs := sH h
 exact ⟨hs.1, hs.2.1, kN (hw.at 1), hs.2.2.2⟩
theorem nU {ws : List Txt} (hw : rO ws) (n k : Int) {st : List Txt} (hst : smL st) (i j l : Nat) : smW (n, k, st, vG (ws.getD i []), namesT (ws.getD j []), namesT (ws.getD l [])) :=
 ⟨hst, ac2 (hw.at i), kN (hw.at j), kN (hw.at l)⟩
theorem NP : smL [] := ⟨by simp, fun x h => by simp at h⟩
theorem getD_drop (ws : List Txt) (i k : Nat) : (ws.drop i).getD k [] = ws.getD (i + k) [] := by
 simp [List.getD_eq_getElem?_getD, List.getElem?_drop]
theorem ary {N : Nat} (hN : lim < N) {b : Book} (h : aS b = true) {ws : List Txt} (hw : rO ws) (hl : ws.length = 3) : Rl N b ws = some (lJ b (b.1 ++ [(ws.getD 1 [], ws.getD 2 [])], b.2)) := by
 have hlim := aQ
 obtain ⟨h1, h2, h3⟩ := jR h
 unfold Rl
 rw [ak (oU hN (sH h)), decide_eq_true (show (1 : Int) < (ws.length : Int) by omega), decide_eq_true (show (2 : Int) < (ws.length : Int) by omega), decide_eq_true (show (List.length b.1 + 1) * 32 ≤ lim by omega)]
 simp only [cond_true]
 exact ak (TG hN b (ad5 h hw))
theorem BI {N : Nat} (hN : lim < N) {b : Book} (h : aS b = true) (w : Want) : BD N (gQ b w).1 (gQ b w).2 = some (iO (gQ b w)) := by
 obtain ⟨h0, h1, _⟩ := iM (uk h w)
 exact WQ _ h0 h1
theorem ac4 {N : Nat} (hN : lim < N) {b : Book} (h : aS b = true) (n : Int) : BD N (kC b n).1 (kC b n).2 = some (iO (kC b n)) := by
 obtain ⟨h0, h1, _⟩ := iM (PL h n)
 exact WQ _ h0 h1
theorem QP {N : Nat} (hN : lim < N) {b : Book} (h : aS b = true) (n m : Int) (d : Bool) : BD N (jT b n m d).1 (jT b n m d).2 = some (iO (jT b n m d)) := by
 obtain ⟨h0, h1, _⟩ := iM (E8 h n m d)
 exact WQ _ h0 h1
theorem adc {N : Nat} (hN : lim < N) {b : Book} (h : aS b = true) {ws : List Txt} (hl : ws.length = 2) :
 (ob (aaX N b (ws.getD 1 [])) (Int.ofNat 0) fun r_25 => ob (uX N r_25) [] fun r_26 => bif decide (List.length r_26 + 1 ≤ lim) then
  (bif decide ((1 : Int) < (ws.length : Int)) then (ob (aaQ N b (ws.getD 1 [])) [] fun r_27 => ob (ach N r_27) [] fun r_28 => bif decide (List.length (r_26 ++ [32]) + List.length r_28 ≤ lim) then (some (b, r_26 ++ [32] ++ r_28)) else none) else none) else none) = some (b, Ib b (ws.getD 1 [])) := by
 have hlim := aQ
 have hs := sH h
 obtain ⟨m0, m1⟩ := Py h (ws.getD 1 [])
 obtain ⟨s1, s2⟩ := Gn h (ws.getD 1 [])
 have l1 := dY (n := yC b (ws.getD 1 [])) m0 (by omega)
 have l2 := FQ h (ws.getD 1 [])
 rw [ak (an8 hN hs _), ak (Nk m0 (by omega)), decide_eq_true (by omega), decide_eq_true (show (1 : Int) < (ws.length : Int) by omega)]
 simp only [cond_true]
 rw [ak (akA hN hs _), ak (aq4 hN (by omega) s2), decide_eq_true (by rw [List.length_append]; simp only [List.length_cons, List.length_nil]; omega)]
 rfl
set_option maxHeartbeats 1000000 in
theorem aeP {N : Nat} (hN : lim < N) {b : Book} (h : aS b = true) {ws : List Txt} (hw : rO ws) (hl : 0 < ws.length) : aaS N b ws = some (lm b ws) := by
 have hlim := aQ
 have hs := sH h
 have w1 := hw.at 1
 have hd : ∀ k, ∀ x ∈ ws.drop k, x.length ≤ 1000000 := fun k x hx => by have := hw x (List.mem_of_mem_drop hx); omega
 have g0 : decide ((0 : Int) < (ws.length : Int)) = true := decide_eq_true (by omega)
 unfold aaS lm
 simp only [g0, cond_true, show Int.toNat 0 = 0 from rfl, show Int.toNat 1 = 1 from rfl, show Int.toNat 2 = 2 from rfl, Int.toNat_natCast, List.take_length]
 cases c1 : ws.getD 0 [] == [102, 111, 101] && (ws.length : Int) == 3 with
 | true => exact ak (ary hN h hw (eX (k := 3) c1))
 | false =>
 simp only [cond_false]
 cases c2 : ws.getD 0 [] == [115, 112, 111, 116] && (ws.length : Int) == 5 with
 | true => exact ak (aqV hN h hw (eX (k := 5) c2))
 | false =>
 simp only [cond_false]
 cases c3 : ws.getD 0 [] == [118, 97, 108, 118, 101, 115] && (ws.length : Int) == 2 with
 | true =>
  have hl := eX (k := 2) c3
  simp only [cond_true]
  rw [ak (oU hN hs), decide_eq_true (show (1 : Int) < (ws.length : Int) by omega), cond_true, ak (qR hN (s := ws.getD 1 []) (by omega))]
  exact ak (TG hN b (M_ h hw))
 | false =>
 simp only [cond_false]
 cases c4 : ws.getD 0 [] == [109, 111, 118, 101] && (ws.length : Int) == 6 with
 | true =>
  have hl := eX (k := 6) c4
  simp only [cond_true]
  rw [decide_eq_true (show (1 : Int) < (ws.length : Int) by omega), decide_eq_true (show (2 : Int) ≤ (ws.length : Int) by omega), dle (Nat.le_refl ws.length)]
  simp only [cond_true]
  rw [ak (Vo hN 1 (st := ws.getD 1 []) (ws := ws.drop 2) (by rw [List.length_drop]; omega) (by omega) (hd 2))]
  simp only [getD_drop]
  rw [ak (BF hN hs (nU hw _ _ (kN (hw.at 1)) _ _ _))]
  exact ak (BI hN h _)
 | false =>
 simp only [cond_false]
 cases c5 : ws.getD 0 [] == [99, 108, 101, 97, 110] && (ws.length : Int) == 5 with
 | true =>
  have hl := eX (k := 5) c5
  simp only [cond_true]
  rw [decide_eq_true (show (1 : Int) ≤ (ws.length : Int) by omega), dle (Nat.le_refl ws.length)]
  simp only [cond_true]
  rw [ak (Vo hN 2 (st := [45]) (ws := ws.drop 1) (by rw [List.length_drop]; omega) (by decide) (hd 1))]
  simp only [getD_drop]
  rw [show namesT [45] = [] from rfl, ak (BF hN hs (nU hw _ _ NP _ _ _))]
  exact ak (BI hN h _)
 | false =>
 simp only [cond_false]
 cases c6 : ws.getD 0 [] == [112, 101, 114, 109, 105, 116] && (ws.length : Int) == 5 with
 | true =>
  have hl := eX (k := 5) c6
  simp only [cond_true]
  rw [decide_eq_true (show (1 : Int) ≤ (ws.length : Int) by omega), dle (Nat.le_refl ws.length)]
  simp only [cond_true]
  rw [ak (Vo hN 3 (st := [45]) (ws := ws.drop 1) (by rw [List.length_drop]; omega) (by decide) (hd 1))]
  simp only [getD_drop]
  rw [show namesT [45] = [] from rfl, ak (BF hN hs (nU hw _ _ NP _ _ _))]
  exact ak (BI hN h _)
 | false =>
 simp only [cond_false]
 cases c7 : ws.getD 0 [] == [115, 116, 111, 112] && (ws.length : Int) == 2 with
 | true =>
  have hl := eX (k := 2) c7
  simp only [cond_true]
  rw [decide_eq_true (show (1 : Int) < (ws.length : Int) by omega), cond_true, ak (h_ hN _), ak (afe hN hs _)]
  exact ak (ac4 hN h _)
 | false =>
 simp only [cond_false]
 cases c8 : ws.getD 0 [] == [111, 118, 101, 114] && (ws.length : Int) == 3 with
 | true =>
  have hl := eX (k := 3) c8
  simp only [cond_true]
  rw [decide_eq_true (show (1 : Int) < (ws.length : Int) by omega), cond_true, ak (h_ hN _), decide_eq_true (show (2 : Int) < (ws.length : Int) by omega), cond_true, ak (h_ hN _), ak (R_ hN hs _ _ _)]
  exact ak (QP hN h _ _ _)
 | false =>
 simp only [cond_false]
 cases c9 : ws.getD 0 [] == [99, 108, 101, 97, 110, 101, 100] && (ws.length : Int) == 2 with
 | true =>
  have hl := eX (k := 2) c9
  simp only [cond_true]
  rw [decide_eq_true (show (1 : Int) < (ws.length : Int) by omega), cond_true, ak (h_ hN _), ak (R_ hN hs _ _ _)]
  exact ak (QP hN h _ _ _)
 | false =>
 simp only [cond_false]
 cases c10 : ws.getD 0 [] == [115, 104, 111, 119] && (ws.length : Int) == 2 with
 | true =>
  have hl := eX (k := 2) c10
  simp only [cond_true]
  rw [decide_eq_true (show (1 : Int) < (ws.length : Int) by omega), cond_true]
  exact ak (aqB hN h _)
 | false =>
 simp only [cond_false]
 cases c11 : ws.getD 0 [] == [118, 97, 108, 118, 101] && (ws.length : Int) == 2 with
 | true =>
  have hl := eX (k := 2) c11
  simp only [cond_true]
  rw [decide_eq_true (show (1 : Int) < (ws.length : Int) by omega), cond_true]
  have hv := adc hN h (ws := ws) hl
  rw [decide_eq_true (show (1 : Int) < (ws.length : Int) by omega)] at hv
  exact hv
 | false => rfl
end Go.MC
namespace Go.MC
open Go.MC.F
theorem adN {N : Nat} (hN : lim < N) {b s : Book} (h : aS b = true) (n : Txt) :
 (ob (zx N b n) (Int.ofNat 0) fun r_40 =>
  bif decide (r_40 < 0) then (some (([110, 111, 110, 101] : Txt), s))
  else (bif decide (0 ≤ r_40) then (bif decide (r_40 < (↑(List.length b.2.1) : Int)) then
   (ob (strconv_Itoa N (List.getD b.2.1 (Int.toNat r_40) az).2.2.1) [] fun r_41 =>
   bif decide (List.length r_41 + [45].length ≤ lim) then
   (ob (strconv_Itoa N (List.getD b.2.1 (Int.toNat r_40) az).2.2.2.1) [] fun r_42 =>
   bif decide (List.length (r_41 ++ [45]) + List.length r_42 ≤ lim) then
   (bif decide (List.length (r_41 ++ [45] ++ r_42) + [32, 111, 102, 32].length ≤ lim) then
   (ob (strconv_Itoa N (List.getD b.2.1 (Int.toNat r_40) az).2.1) [] fun r_43 =>
   bif decide (List.length (r_41 ++ [45] ++ r_42 ++ [32, 111, 102, 32]) + List.length r_43 ≤ lim) then
   (bif decide (List.length (r_41 ++ [45] ++ r_42 ++ [32, 111, 102, 32] ++ r_43) + [32].length ≤ lim) then
   (ob (DF N (List.getD b.2.1 (Int.toNat r_40) az).2.2.2.2) [] fun r_44 =>
   bif decide (List.length (r_41 ++ [45] ++ r_42 ++ [32, 111, 102, 32] ++ r_43 ++ [32]) + List.length r_44 ≤ lim) then
   (some (r_41 ++ [45] ++ r_42 ++ [32, 111, 102, 32] ++ r_43 ++ [32] ++ r_44, s)) else none) else none) else none) else none) else none) else none) else none) else none)) = some (showT b n, s) := by
 have hlim := aQ
 have hs := sH h
 unfold showT
 rw [ak (vZ hN hs.2.1.1 n)]
 cases hn : decide (atB b n < 0) with
 | true => rfl
 | false =>
  have h0 : 0 ≤ atB b n := by have := of_decide_eq_false hn; omega
  obtain ⟨k, hk, hlt, hsp⟩ := ahO b h0
  obtain ⟨a1, a2, a3, a4, a5, a6⟩ := Pi h (List.getElem_mem hlt)
  have l1 := dY a1.1 (by omega)
  have l2 := dY a2.1 (by omega)
  have l3 := dY a3.1 (by omega)
  have l4 := yK a5
  have l5 : b.2.1[k].2.2.2.2.length * (8 + 1) ≤ 8 * 9 := Nat.mul_le_mul_right _ a4
  rw [hsp, hk]
  simp only [dlt hlt, dge, cond_true, cond_false, gAt hlt]
  simp only [ak (nV (N := N) a2.1 (show b.2.1[k].2.2.1 < 1000000000000000000 by omega)), ak (nV (N := N) a3.1 (show b.2.1[k].2.2.2.1 < 1000000000000000000 by omega)), ak (nV (N := N) a1.1 (show b.2.1[k].2.1 < 1000000000000000000 by omega)), ak (SB (N := N) (l := b.2.1[k].2.2.2.2) (by omega) (fun x hx => Nat.le_trans (a5 x hx) (by decide))), List.length_append, List.length_cons, List.length_nil]
  rw [decide_eq_true (by omega), decide_eq_true (by omega), decide_eq_true (by omega), decide_eq_true (by omega), decide_eq_true (by omega), decide_eq_true (by omega)]
  rfl
theorem acN {N : Nat} (hN : lim < N) {b : Book} (h : aS b = true) {ws : List Txt} (hl : ws.length = 2) : NQ N b ws (jU b (ws.getD 1 [])) ((jU b (ws.getD 1 [])).length : Int) N 0 [] = some (Ib b (ws.getD 1 []), b) := by
 have hlim := aQ
 have hs := sH h
 obtain ⟨m0, m1⟩ := Py h (ws.getD 1 [])
 obtain ⟨s1, s2⟩ := Gn h (ws.getD 1 [])
 obtain ⟨f1, f2⟩ := ww s2
 have l1 := dY (n := yC b (ws.getD 1 [])) m0 (by omega)
 have l2 := FQ h (ws.getD 1 [])
 refine (Ed (l := jU b (ws.getD 1 [])) Lib.itoa (fun out => ob (DF N out) [] fun r_49 => bif decide (List.length (Lib.itoa (yC b (ws.getD 1 [])) ++ [32]) + List.length r_49 ≤ lim) then (some (Lib.itoa (yC b (ws.getD 1 [])) ++ [32] ++ r_49, b)) else none) (fun g i out hi ho => ?_) (fun g out => ?_) (by omega)).trans ?_
 ·have hn := s2 _ (List.getElem_mem hi)
  unfold Fj
  simp only [dlt hi, dge, cond_true, gAt hi, wrS (show i ≤ 1000000000000000000 by omega)]
  rw [ak (nV hn.1 (by omega)), decide_eq_true (show (out.length + [Lib.itoa (jU b (ws.getD 1 []))[i]].length) * 16 ≤ lim by simp only [List.length_cons, List.length_nil]; omega), cond_true]
 ·unfold Fj
  simp only [di, cond_false, decide_eq_true (show (1 : Int) < (ws.length : Int) by omega), cond_true, show Int.toNat 1 = 1 from rfl]
  rw [ak (amo hN hs _), ak (nV m0 (by omega)), decide_eq_true (show (Lib.itoa (yC b (ws.getD 1 []))).length + [32].length ≤ lim by simp only [List.length_cons, List.length_nil]; omega), cond_true]
 ·rw [ak (SB (by rw [List.length_map]; omega) (fun x hx => Nat.le_trans (f1 x hx) (by decide)))]
  have l3 : (y9 ((jU b (ws.getD 1 [])).map Lib.itoa)).length ≤ 115 := l2
  rw [decide_eq_true (by rw [List.length_append]; simp only [List.length_cons, List.length_nil]; omega)]
  rfl
theorem obS {α : Type} (o : Option α) {d x : α} (h : o = some x) : ob o d (fun r => some r) = some x := by rw [h]; rfl
theorem Bf {N : Nat} {b : Book} (h : aS b = true) (w : Want) : zS N b (gQ b w).1 (gQ b w).2 = some ((iO (gQ b w)).2, (iO (gQ b w)).1) := by
 obtain ⟨h0, h1, h2⟩ := iM (uk h w)
 exact IW _ _ h0 h1 fun e => absurd e h2
theorem acW {N : Nat} {b : Book} (h : aS b = true) (n : Int) : zS N b (kC b n).1 (kC b n).2 = some ((iO (kC b n)).2, (iO (kC b n)).1) := by
 obtain ⟨h0, h1, h2⟩ := iM (PL h n)
 exact IW _ _ h0 h1 fun e => absurd e h2
theorem QW {N : Nat} {b : Book} (h : aS b = true) (n m : Int) (d : Bool) : zS N b (jT b n m d).1 (jT b n m d).2 = some ((iO (jT b n m d)).2, (iO (jT b n m d)).1) := by
 obtain ⟨h0, h1, h2⟩ := iM (E8 h n m d)
 exact IW _ _ h0 h1 fun e => absurd e h2
set_option maxHeartbeats 1000000 in
theorem ah9 {N : Nat} (hN : lim < N) {b : Book} (h : aS b = true) {line : Txt} (hline : line.length ≤ 10000) : acG N b line = some ((lm b (dA 32 line)).2, (lm b (dA 32 line)).1) := by
 have hlim := aQ
 have hs := sH h
 have hw : rO (dA 32 line) := fun x hx => Nat.le_trans (sJ hx) hline
 have hl : 0 < (dA 32 line).length := by rw [gV 32 _ line (Nat.le_refl _)]; omega
 unfold acG ae0
 rw [ak (zW (by omega) 32)]
 generalize dA 32 line = ws at hw hl ⊢
 have w1 := hw.at 1
 have w2 := hw.at 2
 have w3 := hw.at 3
 have w4 := hw.at 4
 have w5 := hw.at 5
 have g0 : decide ((0 : Int) < (ws.length : Int)) = true := decide_eq_true (by omega)
 obtain ⟨hb1, hb2, hb3⟩ := jR h
 rw [ak (xA hN hs)]
 unfold lm
 simp only [g0, cond_true, show Int.toNat 0 = 0 from rfl, show Int.toNat 1 = 1 from rfl, show Int.toNat 2 = 2 from rfl, show Int.toNat 3 = 3 from rfl, show Int.toNat 4 = 4 from rfl, show Int.toNat 5 = 5 from rfl]
 cases c1 : ws.getD 0 [] == [102, 111, 101] && (ws.length : Int) == 3 with
 | true =>
  have hl := eX (k := 3) c1
  simp only [cond_true]
  rw [decide_eq_true (show (1 : Int) < (ws.length : Int) by omega), decide_eq_true (show (2 : Int) < (ws.length : Int) by omega), decide_eq_true (show (List.length b.1 + [(ws.getD 1 [], ws.getD 2 [])].length) * 32 ≤ lim by simp only [List.length_cons, List.length_nil]; omega)]
  exact obS _ (um hN b (ad5 h hw))
 | false =>
 simp only [cond_false]
 cases c2 : ws.getD 0 [] == [115, 112, 111, 116] && (ws.length : Int) == 5 with
 | true =>
  have hl := eX (k := 5) c2
  simp only [cond_true]
  rw [ak (agS h (ws := ws) (by omega)), decide_eq_true (show (3 : Int) < (ws.length : Int) by omega), cond_true, ak (eH hN _), decide_eq_true (show (1 : Int) < (ws.length : Int) by omega), decide_eq_true (show (2 : Int) < (ws.length : Int) by omega), cond_true, cond_true, ak (eH hN _), decide_eq_true (show (4 : Int) < (ws.length : Int) by omega), cond_true, ak (iC (s := ws.getD 4 []) (by omega)), ak (anP (afC b.2.1 _) hb2 _)]
  exact obS _ (um hN b (Xj h hw))
 | false =>
 simp only [cond_false]
 cases c3 : ws.getD 0 [] == [118, 97, 108, 118, 101, 115] && (ws.length : Int) == 2 with
 | true =>
  have hl := eX (k := 2) c3
  simp only [cond_true]
  rw [decide_eq_true (show (1 : Int) < (ws.length : Int) by omega), cond_true, ak (iC (s := ws.getD 1 []) (by omega))]
  exact obS _ (um hN b (M_ h hw))
 | false =>
 simp only [cond_false]
 cases c4 : ws.getD 0 [] == [109, 111, 118, 101] && (ws.length : Int) == 6 with
 | true =>
  have hl := eX (k := 6) c4
  simp only [cond_true]
  rw [decide_eq_true (show (2 : Int) < (ws.length : Int) by omega), cond_true, ak (eH hN _), decide_eq_true (show (1 : Int) < (ws.length : Int) by omega), cond_true, ak (iC (s := ws.getD 1 []) (by omega)), decide_eq_true (show (3 : Int) < (ws.length : Int) by omega), cond_true, ak (Ic hN (s := ws.getD 3 []) (by omega)), decide_eq_true (show (4 : Int) < (ws.length : Int) by omega), cond_true, ak (iC (s := ws.getD 4 []) (by omega)), decide_eq_true (show (5 : Int) < (ws.length : Int) by omega), cond_true, ak (iC (s := ws.getD 5 []) (by omega)), ak (CP hN hs (nU hw _ _ (kN w1) _ _ _))]
  exact obS _ (Bf h _)
 | false =>
 simp only [cond_false]
 cases c5 : ws.getD 0 [] == [99, 108, 101, 97, 110] && (ws.length : Int) == 5 with
 | true =>
  have hl := eX (k := 5) c5
  have e0 : ws.getD 0 [] = [99, 108, 101, 97, 110] := by
   simp only [Bool.and_eq_true] at c5
   exact beq_iff_eq.1 c5.1
  have e5 : ((ws.length : Int) == 5) = true := by
   simp only [Bool.and_eq_true] at c5
   exact c5.2
  simp only [cond_true]
  rw [e0, e5]
  rw [show ((([99, 108, 101, 97, 110] : Txt) == [99, 108, 101, 97, 110] || ([99, 108, 101, 97, 110] : Txt) == [112, 101, 114, 109, 105, 116]) && true) = true from rfl, show (([99, 108, 101, 97, 110] : Txt) == [112, 101, 114, 109, 105, 116]) = false from rfl]
  simp only [cond_true, cond_false]
  rw [decide_eq_true (show (1 : Int) < (ws.length : Int) by omega), cond_true, ak (eH hN _), decide_eq_true (show (2 : Int) < (ws.length : Int) by omega), cond_true, ak (Ic hN (s := ws.getD 2 []) (by omega)), decide_eq_true (show (3 : Int) < (ws.length : Int) by omega), cond_true, ak (iC (s := ws.getD 3 []) (by omega)), decide_eq_true (show (4 : Int) < (ws.length : Int) by omega), cond_true, ak (iC (s := ws.getD 4 []) (by omega)), ak (CP hN hs (nU hw _ _ NP _ _ _))]
  exact obS _ (Bf h _)
 | false =>
 simp only [cond_false]
 cases c6 : ws.getD 0 [] == [112, 101, 114, 109, 105, 116] && (ws.length : Int) == 5 with
 | true =>
  have hl := eX (k := 5) c6
  have e0 : ws.getD 0 [] = [112, 101, 114, 109, 105, 116] := by
   simp only [Bool.and_eq_true] at c6
   exact beq_iff_eq.1 c6.1
  have e5 : ((ws.length : Int) == 5) = true := by
   simp only [Bool.and_eq_true] at c6
   exact c6.2
  simp only [cond_true]
  rw [e0, e5]
  rw [show ((([112, 101, 114, 109, 105, 116] : Txt) == [99, 108, 101, 97, 110] || ([112, 101, 114, 109, 105, 116] : Txt) == [112, 101, 114, 109, 105, 116]) && true) = true from rfl, show (([112, 101, 114, 109, 105, 116] : Txt) == [112, 101, 114, 109, 105, 116]) = true from rfl]
  simp only [cond_true, cond_false]
  rw [decide_eq_true (show (1 : Int) < (ws.length : Int) by omega), cond_true, ak (eH hN _), decide_eq_true (show (2 : Int) < (ws.length : Int) by omega), cond_true, ak (Ic hN (s := ws.getD 2 []) (by omega)), decide_eq_true (show (3 : Int) < (ws.length : Int) by omega), cond_true, ak (iC (s := ws.getD 3 []) (by omega)), decide_eq_true (show (4 : Int) < (ws.length : Int) by omega), cond_true, ak (iC (s := ws.getD 4 []) (by omega)), ak (CP hN hs (nU hw _ _ NP _ _ _))]
  exact obS _ (Bf h _)
 | false =>
 simp only [cond_false]
 have c56 : ((ws.getD 0 [] == [99, 108, 101, 97, 110] || ws.getD 0 [] == [112, 101, 114, 109, 105, 116]) && (ws.length : Int) == 5) = false := by
  rw [Bool.and_or_distrib_right, c5, c6]; rfl
 rw [c56]
 simp only [cond_false]
 cases c7 : ws.getD 0 [] == [115, 116, 111, 112] && (ws.length : Int) == 2 with
 | true =>
  have hl := eX (k := 2) c7
  simp only [cond_true]
  rw [decide_eq_true (show (1 : Int) < (ws.length : Int) by omega), cond_true, ak (eH hN _), ak (aku hN hs _)]
  exact obS _ (acW h _)
 | false =>
 simp only [cond_false]
 cases c8 : ws.getD 0 [] == [111, 118, 101, 114] && (ws.length : Int) == 3 with
 | true =>
  have hl := eX (k := 3) c8
  simp only [cond_true]
  rw [decide_eq_true (show (1 : Int) < (ws.length : Int) by omega), cond_true, ak (eH hN _), decide_eq_true (show (2 : Int) < (ws.length : Int) by omega), cond_true, ak (eH hN _), ak (P5 hN hs _ _ _)]
  exact obS _ (QW h _ _ _)
 | false =>
 simp only [cond_false]
 cases c9 : ws.getD 0 [] == [99, 108, 101, 97, 110, 101, 100] && (ws.length : Int) == 2 with
 | true =>
  have hl := eX (k := 2) c9
  simp only [cond_true]
  rw [decide_eq_true (show (1 : Int) < (ws.length : Int) by omega), cond_true, ak (eH hN _), ak (P5 hN hs _ _ _)]
  exact obS _ (QW h _ _ _)
 | false =>
 simp only [cond_false]
 cases c10 : ws.getD 0 [] == [115, 104, 111, 119] && (ws.length : Int) == 2 with
 | true =>
  have hl := eX (k := 2) c10
  simp only [cond_true]
  rw [decide_eq_true (show (1 : Int) < (ws.length : Int) by omega), cond_true]
  exact adN hN h _
 | false =>
 simp only [cond_false]
 cases c11 : ws.getD 0 [] == [118, 97, 108, 118, 101] && (ws.length : Int) == 2 with
 | true =>
  have hl := eX (k := 2) c11
  simp only [cond_true]
  rw [decide_eq_true (show (1 : Int) < (ws.length : Int) by omega), cond_true, ak (agZ hN hs _)]
  exact acN hN h hl
 | false => rfl
end Go.MC
namespace Go.MC
open Go.MC.F
theorem OJ {b c : Book} (h : aS b = true) : aS (lJ b c).1 = true ∧ (lJ b c).2.length ≤ 200 := by
 unfold lJ
 cases hc : aS c with
 | true => exact ⟨hc, show ([111, 107] : Txt).length ≤ 200 by decide⟩
 | false => exact ⟨h, show ([110, 111] : Txt).length ≤ 200 by decide⟩
theorem nJ {r : Book × Int} (h : vX r.2) : (iO r).2.length ≤ 200 := by
 obtain ⟨h0, h1, _⟩ := iM h
 have := dY h0 (by omega)
 unfold iO
 simp only [List.length_append, List.length_cons, List.length_nil]
 omega
theorem agJ {b : Book} (h : aS b = true) (n : Txt) : (showT b n).length ≤ 200 := by
 unfold showT
 cases hn : decide (atB b n < 0) with
 | true => show ([110, 111, 110, 101] : Txt).length ≤ 200; decide
 | false =>
  have h0 : 0 ≤ atB b n := by have := of_decide_eq_false hn; omega
  obtain ⟨k, hk, hlt, hsp⟩ := ahO b h0
  obtain ⟨a1, a2, a3, a4, a5, a6⟩ := Pi h (List.getElem_mem hlt)
  have l1 := dY a1.1 (by omega)
  have l2 := dY a2.1 (by omega)
  have l3 := dY a3.1 (by omega)
  have l4 := yK a5
  have l5 : b.2.1[k].2.2.2.2.length * (8 + 1) ≤ 8 * 9 := Nat.mul_le_mul_right _ a4
  rw [hsp]
  simp only [cond_false, List.length_append, List.length_cons, List.length_nil]
  omega
theorem acg {b : Book} (h : aS b = true) (v : Txt) : (Ib b v).length ≤ 200 := by
 have hm := Py h v
 have l1 := dY (n := yC b v) hm.1 (by omega)
 have l2 := FQ h v
 unfold Ib
 simp only [List.length_append, List.length_cons, List.length_nil]
 omega
theorem arA {α : Type} {P : α → Prop} {c : Bool} {x y : α} (hx : P x) (hy : P y) : P (bif c then x else y) := by
 cases c
 ·exact hy
 ·exact hx
theorem XV {b : Book} (h : aS b = true) (ws : List Txt) : aS (lm b ws).1 = true ∧ (lm b ws).2.length ≤ 200 := by
 have hP : ∀ {c : Bool} {x y : Book × Txt}, (aS x.1 = true ∧ x.2.length ≤ 200) → (aS y.1 = true ∧ y.2.length ≤ 200) → (aS (bif c then x else y).1 = true ∧ (bif c then x else y).2.length ≤ 200) := fun hx hy => arA (P := fun x : Book × Txt => aS x.1 = true ∧ x.2.length ≤ 200) hx hy
 unfold lm
 exact hP (OJ h) (hP (OJ h) (hP (OJ h) (hP ⟨IA h, nJ (uk h _)⟩ (hP ⟨IA h, nJ (uk h _)⟩ (hP ⟨IA h, nJ (uk h _)⟩ (hP ⟨an4 h, nJ (PL h _)⟩ (hP ⟨ZW h, nJ (E8 h _ _ _)⟩ (hP ⟨ZW h, nJ (E8 h _ _ _)⟩ (hP ⟨h, agJ h _⟩ (hP ⟨h, acg h _⟩ ⟨h, show ([98, 97, 100] : Txt).length ≤ 200 by decide⟩))))))))))
def stepS (st : Txt × Book) (line : Txt) : Txt × Book := (st.1 ++ (lm st.2 (dA 32 line)).2 ++ [10], (lm st.2 (dA 32 line)).1)
def agj (lines : List Txt) : Txt := (lines.foldl stepS ([], ([], [], [], [], 0))).1
theorem arJ {N : Nat} (hN : lim < N) {lines : List Txt} (hl : lines.length ≤ 200) (hw : rO lines) : ∀ (d n i : Nat) (out : Txt) (b : Book), i + d = lines.length → d < n → aS b = true → out.length ≤ i * 201 →
 wR N lines n out (i : Int) b.1 b.2.1 b.2.2.1 b.2.2.2.1 b.2.2.2.2 = some ((lines.drop i).foldl stepS (out, b)).1 := by
 have hlim := aQ
 intro d
 induction d with
 | zero =>
  intro n i out b h1 h2 h3 h4
  obtain ⟨n, rfl⟩ : ∃ j, n = j + 1 := ⟨n - 1, by omega⟩
  show uw N lines (wR N lines n) out (i : Int) b.1 b.2.1 b.2.2.1 b.2.2.2.1 b.2.2.2.2 = _
  have hi : i = lines.length := by omega
  subst hi
  unfold uw
  rw [di, cond_false, List.drop_length]
  rfl
 | succ d ih =>
  intro n i out b h1 h2 h3 h4
  obtain ⟨n, rfl⟩ : ∃ j, n = j + 1 := ⟨n - 1, by omega⟩
  show uw N lines (wR N lines n) out (i : Int) b.1 b.2.1 b.2.2.1 b.2.2.2.1 b.2.2.2.2 = _
  have hi : i < lines.length := by omega
  have hx : lines[i].length ≤ 10000 := hw _ (List.getElem_mem hi)
  have hws : rO (dA 32 lines[i]) := fun x hx' => Nat.le_trans (sJ hx') hx
  have hpos : 0 < (dA 32 lines[i]).length := by rw [gV 32 _ _ (Nat.le_refl _)]; omega
  obtain ⟨ok, hlen⟩ := XV h3 (dA 32 lines[i])
  unfold uw
  rw [dlt hi]
  simp only [dge, cond_true, gAt hi]
  rw [ak (SK hN (s := lines[i]) (by omega) (c := 32) (k := 32) rfl)]
  rw [ak (show aaS N (b.1, b.2.1, b.2.2.1, b.2.2.2.1, b.2.2.2.2) (dA 32 lines[i]) = some (lm b (dA 32 lines[i])) from aeP hN h3 hws hpos)]
  rw [decide_eq_true (by omega), decide_eq_true (by rw [List.length_append]; simp only [List.length_cons, List.length_nil]; omega)]
  simp only [cond_true, wrS (show i ≤ 1000000000000000000 by omega)]
  rw [ih n (i + 1) _ (lm b (dA 32 lines[i])).1 (by omega) (by omega) ok (by simp only [List.length_append, List.length_cons, List.length_nil]; omega), List.drop_eq_getElem_cons hi, List.foldl_cons]
  rfl
theorem arp {N : Nat} (hN : lim < N) {lines : List Txt} (hl : lines.length ≤ 200) (hw : rO lines) : ∀ (d n i : Nat) (out : Txt) (b : Book), i + d = lines.length → d < n → aS b = true → out.length ≤ i * 201 →
 vO N lines (lines.length : Int) n out (i : Int) b.1 b.2.1 b.2.2.1 b.2.2.2.1 b.2.2.2.2 = some ((lines.drop i).foldl stepS (out, b)).1 := by
 have hlim := aQ
 intro d
 induction d with
 | zero =>
  intro n i out b h1 h2 h3 h4
  obtain ⟨n, rfl⟩ : ∃ j, n = j + 1 := ⟨n - 1, by omega⟩
  show uA N lines (lines.length : Int) (vO N lines (lines.length : Int) n) out (i : Int) b.1 b.2.1 b.2.2.1 b.2.2.2.1 b.2.2.2.2 = _
  have hi : i = lines.length := by omega
  subst hi
  unfold uA
  rw [di, cond_false, List.drop_length]
  rfl
 | succ d ih =>
  intro n i out b h1 h2 h3 h4
  obtain ⟨n, rfl⟩ : ∃ j, n = j + 1 := ⟨n - 1, by omega⟩
  show uA N lines (lines.length : Int) (vO N lines (lines.length : Int) n) out (i : Int) b.1 b.2.1 b.2.2.1 b.2.2.2.1 b.2.2.2.2 = _
  have hi : i < lines.length := by omega
  have hx : lines[i].length ≤ 10000 := hw _ (List.getElem_mem hi)
  obtain ⟨ok, hlen⟩ := XV h3 (dA 32 lines[i])
  unfold uA
  rw [dlt hi]
  simp only [dge, cond_true, gAt hi]
  rw [ak (show acG N (b.1, b.2.1, b.2.2.1, b.2.2.2.1, b.2.2.2.2) lines[i] = some ((lm b (dA 32 lines[i])).2, (lm b (dA 32 lines[i])).1) from ah9 hN h3 hx)]
  simp only [List.length_append, List.length_cons, List.length_nil]
  rw [decide_eq_true (by omega), decide_eq_true (by omega)]
  simp only [cond_true, wrS (show i ≤ 1000000000000000000 by omega)]
  rw [ih n (i + 1) _ (lm b (dA 32 lines[i])).1 (by omega) (by omega) ok (by simp only [List.length_append, List.length_cons, List.length_nil]; omega), List.drop_eq_getElem_cons hi, List.foldl_cons]
  unfold stepS
  rw [List.append_assoc]
def X3 (text : Txt) : Txt :=
 bif decide ((text.length : Int) > 10000) then [116, 111, 111, 32, 108, 111, 110, 103, 10] else
 bif decide (((bif (dA 10 text).getD ((dA 10 text).length - 1) [] == [] then (dA 10 text).take ((dA 10 text).length - 1) else dA 10 text).length : Int) > 200) then [116, 111, 111, 32, 108, 111, 110, 103, 10] else
 agj (bif (dA 10 text).getD ((dA 10 text).length - 1) [] == [] then (dA 10 text).take ((dA 10 text).length - 1) else dA 10 text)
theorem F_ {text : Txt} (h : ¬ (text.length : Int) > 10000) (k : Nat) : rO ((dA 10 text).take k) := fun x hx => by
 have := sJ (List.mem_of_mem_take hx)
 omega
theorem KI {text : Txt} (h : ¬ (text.length : Int) > 10000) : rO (dA 10 text) := fun x hx => by
 have := sJ hx
 omega
theorem arI {N : Nat} (hN : lim < N) {lines : List Txt} (hl : ¬ ((lines.length : Int) > 200)) (hw : rO lines) : wR N lines N [] 0 [] [] [] [] 0 = some (agj lines) := by
 have hlim := aQ
 exact arJ hN (by omega) hw lines.length N 0 [] ([], [], [], [], 0) (by omega) (by omega) PO (by simp)
theorem arH {N : Nat} (hN : lim < N) {lines : List Txt} (hl : ¬ ((lines.length : Int) > 200)) (hw : rO lines) : vO N lines (lines.length : Int) N [] 0 [] [] [] [] 0 = some (agj lines) := by
 have hlim := aQ
 exact arp hN (by omega) hw lines.length N 0 [] ([], [], [], [], 0) (by omega) (by omega) PO (by simp)
theorem PZ {N : Nat} (hN : lim < N) {text : Txt} (ht : text.length ≤ 1048576) : akz N text = some (X3 text) := by
 have hlim := aQ
 have hlen := Ja 10 text
 have hpos : 0 < (dA 10 text).length := by rw [gV 10 _ _ (Nat.le_refl _)]; omega
 unfold akz afx X3
 rw [ak (SK hN ht (c := 10) (k := 10) rfl)]
 rw [wrP (show (dA 10 text).length ≤ 1000000000000000000 by omega) hpos]
 rw [decide_eq_true (show (0 : Int) ≤ (((dA 10 text).length - 1 : Nat) : Int) by omega), decide_eq_true (show (((dA 10 text).length - 1 : Nat) : Int) < ((dA 10 text).length : Int) by omega), decide_eq_true (show (((dA 10 text).length - 1 : Nat) : Int) ≤ ((dA 10 text).length : Int) by omega)]
 simp only [cond_true, Int.toNat_natCast, show Int.toNat 0 = 0 from rfl, List.drop_zero]
 cases hlast : (dA 10 text).getD ((dA 10 text).length - 1) [] == [] with
 | true =>
  simp only [cond_true]
  cases ht : decide ((text.length : Int) > 10000) with
  | true => rfl
  | false =>
   simp only [cond_false]
   cases hn : decide ((((dA 10 text).take ((dA 10 text).length - 1)).length : Int) > 200) with
   | true => rfl
   | false =>
    simp only [cond_false]
    exact arI hN (of_decide_eq_false hn) (F_ (of_decide_eq_false ht) _)
 | false =>
  simp only [cond_false]
  cases ht : decide ((text.length : Int) > 10000) with
  | true => rfl
  | false =>
   simp only [cond_false]
   cases hn : decide (((dA 10 text).length : Int) > 200) with
   | true => rfl
   | false =>
    simp only [cond_false]
    exact arI hN (of_decide_eq_false hn) (KI (of_decide_eq_false ht))
theorem SS {N : Nat} (hN : lim < N) {text : Txt} (ht : text.length ≤ 1048576) : afv N text = some (X3 text) := by
 have hlim := aQ
 have hlen := Ja 10 text
 have hpos : 0 < (dA 10 text).length := by rw [gV 10 _ _ (Nat.le_refl _)]; omega
 unfold afv aiB X3
 rw [ak (zW ht 10)]
 rw [wrP (show (dA 10 text).length ≤ 1000000000000000000 by omega) hpos]
 rw [decide_eq_true (show (0 : Int) ≤ (((dA 10 text).length - 1 : Nat) : Int) by omega), decide_eq_true (show (((dA 10 text).length - 1 : Nat) : Int) < ((dA 10 text).length : Int) by omega), decide_eq_true (show (((dA 10 text).length - 1 : Nat) : Int) ≤ ((dA 10 text).length : Int) by omega)]
 simp only [cond_true, Int.toNat_natCast, show Int.toNat 0 = 0 from rfl, List.drop_zero]
 cases hlast : (dA 10 text).getD ((dA 10 text).length - 1) [] == [] with
 | true =>
  simp only [cond_true]
  cases ht : decide ((text.length : Int) > 10000) with
  | true => rfl
  | false =>
   simp only [cond_false]
   cases hn : decide ((((dA 10 text).take ((dA 10 text).length - 1)).length : Int) > 200) with
   | true => rfl
   | false =>
    simp only [cond_false]
    exact arH hN (of_decide_eq_false hn) (F_ (of_decide_eq_false ht) _)
 | false =>
  simp only [cond_false]
  cases ht : decide ((text.length : Int) > 10000) with
  | true => rfl
  | false =>
   simp only [cond_false]
   cases hn : decide (((dA 10 text).length : Int) > 200) with
   | true => rfl
   | false =>
    simp only [cond_false]
    exact arH hN (of_decide_eq_false hn) (KI (of_decide_eq_false ht))
end Go.MC
namespace Go.MC
open Go.MC.F
theorem UR {N : Nat} (hN : lim < N) (text : Txt) : abU N text = some true := by
 unfold abU
 cases h : decide ((text.length : Int) > 1048576) with
 | true => rfl
 | false =>
  have ht : text.length ≤ 1048576 := by have := of_decide_eq_false h; omega
  rw [ak (PZ hN ht), ak (SS hN ht)]
  simp
end Go.MC
namespace Go.Proofs.YtaihjhaabnfenaaGreatDoor.fnExactClaimSession
open Go.ChangeShapes Go.WideShapes Go.ChangeAt Go.RowKit Go.MC
open Go.ChangeMaps (open_string shut_string)
theorem own : ownKnob Tryz.prog.godebug = none := by kernel_rfl
theorem laidOut : laidOutB Tryz.prog = true := by kernel_rfl
theorem lift {H : Type} {enc : TypeId × Value → H} {a : Assume} {C : Checked} {os : Os} {f : FuncId} {fn : Func} {s : ChangeSpec} {conds : List PathCond} {apart fresh handsOn again : Bool} {X : World → Array Value → Prop}
 (hX : ∀ (w w' : World) (args : Array Value), w.heap = w'.heap → X w args → X w' args)
 (own : ownKnob C.prog.godebug = none) (started : os.Started) (noInit : C.prog.inits.idxOf? f = none) (hfn : C.prog.funcs[f]? = some fn)
 (witness : ∃ (w : World) (tape : Tape) (i : Input), w.os = os ∧ (w.forCall tape i).Shaped C.prog ∧ i.vars = [] ∧ Input.okWide C.prog (w.forCall tape i) .any w.heap.size f i ∧
  ((s.pre enc C.prog fn conds apart (w.forCall tape i).memory i.args ∧ X (w.forCall tape i).memory i.args) ∧ sizedMet enc C.prog fn (OpenSpec.ofChange s) apart (w.forCall tape i).memory i.args) ∧ a.holds C.prog (lone (Frame.enter C.prog f i.args .normal) [] (w.forCall tape i)))
 (contract : ∀ (W : World) (base : Nat) (args : Array Value) (ds gs : List (DataW H)) (before : List MemPlace),
  (∀ (j : Nat) t v, fn.params[j]? = some t → args[j]? = some v → Value.okWide C.prog W .any base t v) →
  DataW.Whole enc C.prog fn.params.toList s.vars apart W args.toList ds gs before →
  (DataW.weightsEach C.prog (fn.params.toList ++ s.plain.varTypes C.prog) (ds ++ gs)).all (· ≤ reachBytes) = true → X W args → W.ShapedOpen C.prog →
  Calls C.prog f args W fun e W' => ∃ v, e = .returned v ∧ s.post enc C.prog fn apart fresh handsOn again W args v W') :
 ReturnsInHanded a C os f .any (fun w args => (s.pre enc C.prog fn conds apart w args ∧ X w args) ∧ sizedMet enc C.prog fn (OpenSpec.ofChange s) apart w args) (s.post enc C.prog fn apart fresh handsOn again) := by
 refine returnsInHanded_of_calls own started noInit witness ?_
 intro w tape i _ hsh _ hok hpre _
 obtain ⟨_, _, _, fn', hfn', _, _, _, _, hval⟩ := hok
 have e : fn' = fn := Option.some.inj (hfn'.symm.trans hfn)
 subst e
 obtain ⟨⟨⟨ds, gs, before, hw, hc⟩, hx⟩, hz⟩ := hpre
 have hw' := DataW.Whole.of_heap (w' := w.forCall tape i) (by rfl) hw
 refine (contract (w.forCall tape i) w.heap.size i.args ds gs before hval hw' (hz.weights hw) (hX _ _ _ (by rfl) hx) hsh).mono fun e W' ⟨v, he, hp⟩ => ?_
 subst he
 exact ChangeSpec.post_blind hp
theorem gv {W : World} (h : laidMetH Tryz.prog Rows.fnExactClaimSessionRow.laid W) (hs : W.ShapedOpen Tryz.prog) : GV W fun b => b < W.heap.size := by
 rw [MakeChecks.laidMetH_plain _ _ _ (by kernel_rfl)] at h
 have e : Rows.fnExactClaimSessionRow.laid = ("math/bits.deBruijn32tab", Rows.laid_math_bits_deBruijn32tab) :: ("math/bits.deBruijn64tab", Rows.laid_math_bits_deBruijn64tab) :: ("internal/strconv.uint64pow10", Lib.tabData .u64 Lib.pow10Tab) :: Rows.fnExactClaimSessionRow.laid.drop 3 := by kernel_rfl
 rw [e] at h
 have h3 := laidMet.tail (laidMet.tail h)
 have tab : Lib.TabIs Tryz.prog W "internal/strconv.uint64pow10" .u64 Lib.pow10Tab := Lib.tabIs_of_head (g := 5) (by kernel_rfl) (by kernel_rfl) Tryz.underlying189 Tryz.underlying164 (by kernel_rfl) (by kernel_rfl) h3
 obtain ⟨m, hm⟩ := cell_of_shapedOpen_int (g := 0) (t := 3) (zero := #[.int .i64 0]) (k := .i64) hs (of_decide_eq_true (by kernel_rfl)) (by kernel_rfl) rfl (by kernel_rfl) (by kernel_rfl) Tryz.underlying3
 obtain ⟨cs, hh, hsz, _⟩ := hs.1 0 #[.int .i64 0] 3 (of_decide_eq_true (by kernel_rfl)) (by kernel_rfl)
 have h5 : ∃ t fr, W.heap[5]? = some (.cells (Lib.pow10Tab.map fun z => Value.int .u64 z).toArray t fr) := by
  unfold Lib.TabIs World.var? at tab
  rw [show Tryz.prog.globalNamed "internal/strconv.uint64pow10" = some 5 by kernel_rfl] at tab
  simp only [Option.bind_some] at tab
  split at tab
  ·rename_i cs' t fr he
   cases tab
   exact ⟨t, fr, he⟩
  ·cases tab
 obtain ⟨t5, fr5, h5⟩ := h5
 have l5 : 5 < W.heap.size := (Array.getElem?_eq_some_iff.1 h5).1
 intro b hb
 have hb : b < 6 := hb
 have lb : b < W.heap.size := by omega
 refine ⟨lb, W.heap[b], Array.getElem?_eq_getElem lb, fun e => ?_, fun e => ?_⟩
 ·subst e
  have e0 : W.heap[0] = .cells cs 3 := Option.some.inj ((Array.getElem?_eq_getElem lb).symm.trans hh)
  refine ⟨m, 3, (0, 0), ?_⟩
  rw [e0]
  have hc : cs[0]? = some (.int .i64 m) := by
   unfold World.cell? at hm
   rw [hh] at hm
   simpa using hm
  have : cs = #[.int .i64 m] := by
   have hsz : cs.size = 1 := hsz
   apply Array.ext
   ·rw [hsz]; rfl
   ·intro i h1 h2
    have : i = 0 := by omega
    subst this
    have h6 := (Array.getElem?_eq_some_iff.1 hc).2
    exact h6
  rw [this]
 ·subst e
  exact ⟨t5, fr5, Option.some.inj ((Array.getElem?_eq_getElem lb).symm.trans h5)⟩
set_option maxRecDepth 100000 in
theorem lifted (os : Os) (started : os.Started) (H : Type) (enc : TypeId × Value → H) :
 ReturnsInHanded {} Tryz.checked os 3 .any (fun w args => (Rows.fnExactClaimSessionSpec.pre enc Tryz.prog Tryz.f3 Rows.fnExactClaimSessionRow.domain false w args ∧ laidMetH Tryz.prog Rows.fnExactClaimSessionRow.laid w) ∧ sizedMet enc Tryz.prog Tryz.f3 (OpenSpec.ofChange Rows.fnExactClaimSessionSpec) false w args) (Rows.fnExactClaimSessionSpec.post enc Tryz.prog Tryz.f3 false true false false) := by
 refine lift (C := Tryz.checked) (X := fun w _ => laidMetH Tryz.prog Rows.fnExactClaimSessionRow.laid w) (fun _ _ _ hh h => h.of_heap hh) own started (by kernel_rfl) Tryz.func3
  (ChangeSpec.witness_shaped (enc := enc) (C := Tryz.checked) (os := os) (X := fun w _ => laidMetH Tryz.prog Rows.fnExactClaimSessionRow.laid w) false (World.laidAll Tryz.prog os Rows.fnExactClaimSessionRow.laid) #[.string ByteArray.empty] 8 (World.laidAll_os _ _ _)
   (World.shaped_of_ZipB (by kernel_rfl) (by kernel_rfl)) (by kernel_rfl) (by kernel_rfl) (by kernel_rfl)
   (by rw [MakeChecks.laidMetH_plain _ _ _ (by kernel_rfl)]; exact laidMet_laidAll _ (by kernel_rfl) (by kernel_rfl))) ?_
 intro W base args ds gs before hval0 hW hsz0 hL hsh
 have hgv := gv hL hsh
 have hsz : (DataW.weightsEach Tryz.prog (Tryz.f3.params.toList ++ Rows.fnExactClaimSessionSpec.plain.varTypes Tryz.prog) (ds ++ gs)).all (· ≤ reachBytes) = true := hsz0
 have hval : ∀ (j : Nat) t v, Tryz.f3.params[j]? = some t → args[j]? = some v → Value.okWide Tryz.prog W .any base t v := hval0
 have hW' := hW
 obtain ⟨p, q, hA0, hV, rfl, hfz, hnd⟩ := hW
 have hA : DataW.TrodAll enc Tryz.prog W 0 (fun _ => true) true Tryz.f3.params.toList args.toList ds p := hA0
 rw [Tryz.params3] at hA hval hsz
 obtain ⟨v0, vs0, d0, ds0, p0, q0, hargs, rfl, rfl, h0, r0⟩ := trodAll_cons hA
 obtain ⟨rfl, rfl, rfl⟩ := trodAll_nil r0
 obtain rfl : args = #[v0] := by cases args; simp_all
 obtain ⟨rfl, rfl⟩ := trodVars_none hV
 have lt0 : ∀ x ∈ p0, x.block < W.heap.size := by obtain ⟨m, hm⟩ := h0; exact DataW.trod_lt m _ _ _ hm
 obtain ⟨x0, cs0, hx0, hs0⟩ := ap2 (n := 12) (t := (.str)) (by kernel_rfl) (hval 0 9 v0 rfl rfl) h0 hsz (j := 0) rfl rfl
 clear hA0 hval0 hsz0 hsz
 have law : F.abU (lim + 1) x0 = some true := UR (N := lim + 1) (Nat.lt_succ_self _) x0
 have hout := abM (f := F.abU (lim + 1)) law (rs := [.d .bool false]) (ts := [.bool]) (fz := false) (a := false) (t := (.str)) (x := x0) (r := true)
 refine (aaK (aje (lim + 1)) (args := [v0]) (ds := [⟨(.str), x0⟩]) ⟨v0, [], [], rfl, rfl, ⟨rfl, rfl⟩⟩
  ⟨v0, [], x0, [], cs0, rfl, rfl, hx0, hs0, ⟨rfl, rfl, rfl, rfl⟩⟩ hout.1 hout.2 rfl hgv).mono fun e W' ⟨he, bel⟩ => ?_
 subst he
 exact ⟨_, rfl, _, _, _, [], _, [], hW', trodAll_mk1 (shut_bool Tryz.underlying4 _), (trodAll_cons_mk (Below.trod laidOut (by kernel_rfl) (of_decide_eq_true (by kernel_rfl)) h0 bel lt0) trodAll_mk0), rfl, bel.frame _, fun h => by cases h⟩
theorem over : Rows.fnExactClaimSessionRow.holds Tryz.pinned (OpenSpec.ofChange Rows.fnExactClaimSessionSpec) :=
 OpenClaim.holds_of_wide 3 Tryz.f3 rfl rfl rfl rfl rfl rfl rfl ⟨rfl, rfl, rfl, rfl, rfl⟩ rfl rfl rfl rfl rfl (by kernel_rfl) Tryz.func3 (by kernel_rfl)
  (of_decide_eq_true (by kernel_rfl)) (by unfold Func.isWrapper; first | (rw [if_pos (by decide +kernel)]; kernel_rfl) | (rw [if_neg (by decide +kernel)]; exact ⟨rfl, rfl⟩))
  (fun os started H enc _ => lifted os started H enc)
theorem proved : Rows.FnExactClaimSessionCardSaid :=
 Claim7.holds_tied_plain_at .later [] [.data, .data, .data, .data, .sentinel, .sentinel, .pinned] true (true, "3741b40c892083b1898007178852194ade3603a2a232be8b26a209944ebc6f1c") true over (fun _ h => by cases h) (by kernel_rfl) (fun _ h => by cases h) fnExactClaimSession_row_tie rfl ⟨rfl, rfl⟩ (by kernel_rfl) rfl
  (fun f fn hf hfn => by
   obtain rfl : f = 3 := Option.some.inj ((show Tryz.prog.funcNamed "loop.example/maltclaim/laws.FnExactClaimSession" = some 3 by kernel_rfl).symm.trans hf) |>.symm
   obtain rfl : fn = Tryz.f3 := (Option.some.inj (Tryz.func3.symm.trans hfn)).symm
   exact ⟨by kernel_rfl, fun j t ht => by
    rw [Tryz.params3] at ht
    have hm : t ∈ [9] := by simpa using Array.mem_of_getElem? ht
    have hall : ([9].all fun u => !Tryz.prog.wantsStandIn u) = true := by kernel_rfl
    exact (show Tryz.prog.wantsStandIn t = false by simpa using List.all_eq_true.1 hall t hm)⟩)
  (by kernel_rfl)
#print axioms proved
end Go.Proofs.YtaihjhaabnfenaaGreatDoor.fnExactClaimSession
namespace Go.Proofs.YtaihjhaabnfenaaGreatDoor
theorem fnExactClaimSession_holds : Rows.FnExactClaimSessionCardSaid := fnExactClaimSession.proved
end Go.Proofs.YtaihjhaabnfenaaGreatDoor

/- The law FnLines returns true on every input: what the program tells is what the document tells, by the contracts of all functions that it reaches and a proof in plain Lean. The row lists package variables (tables of the library); the card ties them to the text of the program; there is no other condition. -/
import Derived.Test.YtaihjhaabnfenaaGreatDoormFnLinesCardSaid4
import Derived.Test.YtaihjhaabnfenaaGreatDoormFnLinesCardSaid2
import Derived.Test.YtaihjhaabnfenaaGreatDoorRows
import Derived.Test.YtaihjhaabnfenaaGreatDoorTie
import Derived.Test.YtaihjhaabnfenaaGreatDoorCards
import Derived.WalkKit
import Derived.ProofKit
import Derived.OpenShut
import Derived.ShutString
import Derived.ChangeOld
import Derived.Below
import Derived.SizedLaws
import Derived.Carry
import Derived.LaidMore
import Derived.Lay
import Derived.SevenTiedAt
import Derived.Stop.Joined
import Derived.Stop.LaidErr
import Derived.Shelf.Vars
import Derived.Lib.LaidTab
import Derived.Handed
set_option linter.unusedVariables false
set_option linter.unusedSimpArgs false
namespace Go.MC
open Go.MC.F
theorem ahZ : ∀ {a b : Txt}, Op.bytesLess a b = true ↔ a < b
 | [], [] => by simp [Op.bytesLess]
 | [], _ :: _ => by simp [Op.bytesLess]
 | _ :: _, [] => by simp [Op.bytesLess]
 | x :: a, y :: b => by
  simp only [Op.bytesLess, Bool.or_eq_true, Bool.and_eq_true, decide_eq_true_eq, beq_iff_eq, List.cons_lt_cons_iff]
  rw [ahZ (a := a) (b := b)]
theorem Tm : ∀ {a b : Txt}, Op.bytesLess a b = false → a ≠ b → Op.bytesLess b a = true
 | [], [], _, h => absurd rfl h
 | [], _ :: _, h, _ => by cases h
 | _ :: _, [], _, _ => rfl
 | x :: a, y :: b, h, hn => by
  simp only [Op.bytesLess, Bool.or_eq_false_iff, Bool.and_eq_false_iff, decide_eq_false_iff_not, beq_eq_false_iff_ne, Bool.or_eq_true, Bool.and_eq_true, decide_eq_true_eq, beq_iff_eq] at h ⊢
  by_cases hxy : x = y
  ·subst hxy
   refine .inr ⟨rfl, Tm ?_ fun e => hn (by rw [e])⟩
   rcases h.2 with h | h
   ·exact absurd rfl h
   ·exact h
  ·refine .inl ?_
   rcases Nat.lt_or_gt_of_ne (fun e => hxy (UInt8.toNat_inj.1 e)) with h1 | h1
   ·exact absurd (UInt8.lt_iff_toNat_lt.2 h1) h.1
   ·exact UInt8.lt_iff_toNat_lt.2 h1
def Asc (l : List Txt) : Prop := l.Pairwise fun a b => Op.bytesLess a b = true
theorem afS {l : List Txt} {n : Int} (h : fM l n = true) : Asc l := by
 unfold fM at h
 simp only [Bool.and_eq_true] at h
 have h2 := gu.1 h.2
 have h3 : ∀ j, 0 < j → (hj : j < l.length) → Op.bytesLess (l[j - 1]'(by omega)) l[j] = true := by
  intro j h0 hj
  have := h2 j l[j] (by simp [hj])
  simp only [Nat.zero_add, Bool.and_eq_true, UO, Bool.or_eq_true, beq_iff_eq] at this
  rcases this.2 with h | h
  ·omega
  ·rwa [List.getD_eq_getElem?_getD, List.getElem?_eq_getElem (by omega)] at h
 have h4 : ∀ (k i : Nat) (hj : i + k + 1 < l.length), Op.bytesLess (l[i]'(by omega)) l[i + k + 1] = true := by
  intro k
  induction k with
  | zero => intro i hj; exact h3 (i + 1) (by omega) hj
  | succ k ih =>
   intro i hj
   exact ku (ih i (by omega)) (h3 (i + (k + 1) + 1) (by omega) hj)
 refine List.pairwise_iff_getElem.2 fun i j hi hj hij => ?_
 have := h4 (j - i - 1) i (by omega)
 simpa only [show i + (j - i - 1) + 1 = j by omega] using this
theorem Yc : ∀ {a b : List Txt}, Asc a → Asc b → (∀ x, x ∈ a ↔ x ∈ b) → a = b
 | [], [], _, _, _ => rfl
 | [], y :: b, _, _, h => absurd ((h y).2 (by simp)) (by simp)
 | x :: a, [], _, _, h => absurd ((h x).1 (by simp)) (by simp)
 | x :: a, y :: b, ha, hb, h => by
  obtain ⟨ha1, ha2⟩ := List.pairwise_cons.1 ha
  obtain ⟨hb1, hb2⟩ := List.pairwise_cons.1 hb
  have e : x = y := by
   rcases List.mem_cons.1 ((h x).1 (by simp)) with h1 | h1
   ·exact h1
   ·rcases List.mem_cons.1 ((h y).2 (by simp)) with h2 | h2
    ·exact h2.symm
    ·have := ku (hb1 x h1) (ha1 y h2)
     rw [iK] at this
     cases this
  subst e
  have : a = b := Yc ha2 hb2 fun z => by
   constructor
   ·intro hz
    rcases List.mem_cons.1 ((h z).1 (by simp [hz])) with h1 | h1
    ·subst h1
     have := ha1 z hz
     rw [iK] at this
     cases this
    ·exact h1
   ·intro hz
    rcases List.mem_cons.1 ((h z).2 (by simp [hz])) with h1 | h1
    ·subst h1
     have := hb1 z hz
     rw [iK] at this
     cases this
    ·exact h1
  rw [this]
theorem anH (xs : List Txt) : Asc (kz (srt xs)) := by
 have hs := Ut xs
 have hn := (Si xs).1
 have hle : (kz (srt xs)).Pairwise fun a b => a ≤ b := by
  unfold kz Lib.compact Lib.compactUpTo
  refine List.pairwise_map.2 ?_
  have h1 : ((List.range (srt xs).length).filter (Lib.keeps (srt xs).toArray)).Pairwise (· < ·) := List.Pairwise.filter _ List.pairwise_lt_range
  refine List.Pairwise.imp_of_mem ?_ h1
  intro i j hi hj hij
  have hj' : j < (srt xs).length := by simpa using (List.mem_filter.1 hj).1
  have hi' : i < (srt xs).length := by omega
  rw [getElem!_pos _ i (by simpa using hi'), getElem!_pos _ j (by simpa using hj')]
  simp only [List.getElem_toArray]
  exact List.pairwise_iff_getElem.1 hs i j hi' hj' hij
 have h2 := List.Pairwise.and hle hn
 refine h2.imp fun {a b} h => ?_
 cases hb : Op.bytesLess a b with
 | true => rfl
 | false =>
  have := ahZ.1 (Tm hb h.2)
  exact absurd this (by simpa using h.1)
def qX : List Txt → Txt → List Txt
 | [], x => [x]
 | y :: ys, x => bif Op.bytesLess y x then y :: qX ys x else bif y == x then y :: ys else x :: y :: ys
theorem Jn : ∀ {l : List Txt} {x y : Txt}, y ∈ qX l x ↔ y = x ∨ y ∈ l
 | [], x, y => by simp [qX]
 | z :: l, x, y => by
  simp only [qX]
  cases h : Op.bytesLess z x with
  | true =>
   simp only [cond_true, List.mem_cons, Jn (l := l)]
   constructor
   ·rintro (h | h | h)
    ·exact .inr (.inl h)
    ·exact .inl h
    ·exact .inr (.inr h)
   ·rintro (h | h | h)
    ·exact .inr (.inl h)
    ·exact .inl h
    ·exact .inr (.inr h)
  | false =>
   cases h2 : z == x with
   | true =>
    have := beq_iff_eq.1 h2
    subst this
    simp
   | false => simp
theorem sQ : ∀ (l : List Txt) (x : Txt), (qX l x).length ≤ l.length + 1
 | [], x => by simp [qX]
 | z :: l, x => by
  simp only [qX]
  have := sQ l x
  cases Op.bytesLess z x with
  | true => simp; omega
  | false => cases z == x <;> simp
theorem aaU : ∀ {l : List Txt} (x : Txt), Asc l → Asc (qX l x)
 | [], x, _ => by simp [qX, Asc]
 | z :: l, x, h => by
  obtain ⟨h1, h2⟩ := List.pairwise_cons.1 h
  simp only [qX]
  cases hz : Op.bytesLess z x with
  | true =>
   refine List.pairwise_cons.2 ⟨fun y hy => ?_, aaU x h2⟩
   rcases Jn.1 hy with rfl | hy
   ·exact hz
   ·exact h1 y hy
  | false =>
   cases h3 : z == x with
   | true => exact h
   | false =>
    have hxz := Tm hz (beq_eq_false_iff_ne.1 h3)
    refine List.pairwise_cons.2 ⟨fun y hy => ?_, h⟩
    rcases List.mem_cons.1 hy with rfl | hy
    ·exact hxz
    ·exact ku hxz (h1 y hy)
def uw (l : List Txt) (xs : List Txt) : List Txt := xs.foldl qX l
theorem ou : ∀ {xs l : List Txt} {y : Txt}, y ∈ uw l xs ↔ y ∈ l ∨ y ∈ xs
 | [], l, y => by simp [uw]
 | x :: xs, l, y => by
  show y ∈ uw (qX l x) xs ↔ _
  rw [ou, Jn, List.mem_cons]
  constructor
  ·rintro ((h | h) | h)
   ·exact .inr (.inl h)
   ·exact .inl h
   ·exact .inr (.inr h)
  ·rintro (h | h | h)
   ·exact .inl (.inr h)
   ·exact .inl (.inl h)
   ·exact .inr h
theorem Ai : ∀ (xs : List Txt) {l : List Txt}, Asc l → Asc (uw l xs)
 | [], l, h => h
 | x :: xs, l, h => Ai xs (aaU x h)
theorem NP : ∀ (xs l : List Txt), (uw l xs).length ≤ l.length + xs.length
 | [], l => by simp [uw]
 | x :: xs, l => by
  have h1 := NP xs (qX l x)
  have h2 := sQ l x
  show (uw (qX l x) xs).length ≤ _
  simp; omega
theorem XN {l xs : List Txt} (h : Asc l) : kz (srt (l ++ xs)) = uw l xs :=
 Yc (anH _) (Ai xs h) fun x => by rw [(Si _).2, ou, List.mem_append]
theorem ack {N : Nat} (hN : lim < N) {l : List Txt} (hl : l.length ≤ 1048576) (x : Txt) : aaI N l x = some (qX l x) := by
 have hlim := aY
 unfold aaI aoB
 have := iT l (fun (g : Int → Option (List Txt)) i (_ : Unit) => g (i : Int)) (fun _ => none) (Hz N l x) (fun i _ y => bif Op.bytesLess y x then .inl () else .inr (some (bif y == x then l else l.take i ++ [x] ++ l.drop i))) (fun _ => some (l ++ [x])) (fun _ _ => True)
  (fun g i st h _ => ⟨by
   unfold Hz
   have e1 : decide ((i : Int) ≤ (l.length : Int)) = true := decide_eq_true (by omega)
   have e2 : decide ((0 + (List.drop (Int.toNat 0) (List.take (Int.toNat (i : Int)) l)).length) * 16 ≤ lim) = true := decide_eq_true (by simp; omega)
   have e3 : decide ((([] ++ List.drop (Int.toNat 0) (List.take (Int.toNat (i : Int)) l)).length + [x].length) * 16 ≤ lim) = true := decide_eq_true (by simp; omega)
   have e4 : decide ((l.length : Int) ≤ (l.length : Int)) = true := decide_eq_true (by omega)
   have e5 : decide ((([] ++ List.drop (Int.toNat 0) (List.take (Int.toNat (i : Int)) l) ++ [x]).length + (List.drop (Int.toNat (i : Int)) (List.take (l.length : Int).toNat l)).length) * 16 ≤ lim) = true := decide_eq_true (by simp; omega)
   simp only [dlt h, dge, gAt h, cond_true, wrS (i := i) (by omega), e1, e2, e3, e4, e5]
   have e6 : [] ++ List.drop (Int.toNat 0) (List.take (Int.toNat (i : Int)) l) ++ [x] ++ List.drop (Int.toNat (i : Int)) (List.take (l.length : Int).toNat l) = l.take i ++ [x] ++ l.drop i := by simp
   rw [e6]
   cases Op.bytesLess l[i] x <;> cases l[i] == x <;> rfl, fun _ _ => trivial⟩) (fun g _ _ => by
   unfold Hz
   have e1 : decide ((l.length : Int) ≤ (l.length : Int)) = true := decide_eq_true (by omega)
   have e2 : decide ((0 + (List.drop (Int.toNat 0) (List.take (Int.toNat (l.length : Int)) l)).length) * 16 ≤ lim) = true := decide_eq_true (by simp; omega)
   have e3 : decide ((([] ++ List.drop (Int.toNat 0) (List.take (Int.toNat (l.length : Int)) l)).length + [x].length) * 16 ≤ lim) = true := decide_eq_true (by simp; omega)
   have e5 : decide ((([] ++ List.drop (Int.toNat 0) (List.take (Int.toNat (l.length : Int)) l) ++ [x]).length + (List.drop (Int.toNat (l.length : Int)) (List.take (l.length : Int).toNat l)).length) * 16 ≤ lim) = true := decide_eq_true (by simp; omega)
   simp only [d_, dge, cond_true, cond_false, e1, e2, e3, e5]
   congr 1
   simp) N (by omega) () trivial
 refine this.trans ?_
 have : ∀ (suf pre : List Txt), l = pre ++ suf → mP (fun _ => some (l ++ [x])) (gJ (fun i (_ : Unit) y => (bif Op.bytesLess y x then Sum.inl () else Sum.inr (some (bif y == x then l else l.take i ++ [x] ++ l.drop i)) : Unit ⊕ Option (List Txt))) pre.length suf ()) = some (pre ++ qX suf x) := by
  intro suf
  induction suf with
  | nil => intro pre h; simp [gJ, mP, qX, h]
  | cons y ys ih =>
   intro pre h
   simp only [gJ, qX]
   cases hy : Op.bytesLess y x with
   | true =>
    have := ih (pre ++ [y]) (by simp [h])
    simp only [cond_true]
    rw [show pre.length + 1 = (pre ++ [y]).length by simp]
    rw [this]
    simp
   | false =>
    cases hyx : y == x with
    | true => simp [mP, h]
    | false => simp [mP, h]
 have := this l [] rfl
 simpa using this
end Go.MC
namespace Go.MC
open Go.MC.F
def bM (b : af) (n : Int) : Int := jo (fun p : dm => p.1.1 == n) 0 b.2.2.2.1
theorem Q_ {N : Nat} (hN : lim < N) {b : af} (hb : smB b) (n : Int) : FY N b n = some (bM b n) := by
 have hlim := aY
 have hlp := hb.2.2.2.1
 unfold FY adv bM
 refine afi b.2.2.2.1 _ (fun p : dm => p.1.1 == n) (fun g i hi => ?_) (fun g => ?_) N (by omega)
 ·unfold EM
  simp only [dlt hi, dge, gAt hi, cond_true, wrS (i := i) (by omega)]
 ·unfold EM
  rw [d_]; rfl
theorem He {N : Nat} (hN : lim < N) {b : af} (hb : smB b) (n : Int) : ZM N b n = some (bM b n) := by
 have hlim := aY
 have hlp := hb.2.2.2.1
 unfold ZM bM
 have h : f_0 N b.2.2.2.1 n = some (jo (fun p : dm => p.1.1 == n) 0 b.2.2.2.1, n) := by
  unfold f_0 axf
  refine P5 b.2.2.2.1 _ (fun p : dm => p.1.1 == n) n (fun g i hi => ?_) (fun g => ?_) N (by omega)
  ·unfold X4
   simp only [dlt hi, dge, gAt hi, cond_true, wrS (i := i) (by omega)]
   rw [au (show arS N b.2.2.2.1[i] n = some (b.2.2.2.1[i].1.1 == n, n) from rfl)]
  ·unfold X4
   rw [d_]; rfl
 rw [au h]
theorem lL {b : af} {n : Int} (h : 0 ≤ bM b n) : bM b n < b.2.2.2.1.length := by
 have := Ph _ _ _ h
 unfold bM
 omega
end Go.MC
namespace Go.MC
open Go.MC.F
theorem lne (m n : Nat) : ((m : Int) != (n : Int)) = !(m == n) := by
 by_cases h : m = n
 ·subst h; simp
 ·have : ¬ ((m : Int) = (n : Int)) := by omega
  show (!((m : Int) == (n : Int))) = _
  rw [beq_eq_false_iff_ne.2 this, beq_eq_false_iff_ne.2 h]
theorem akX (m n : Int) : (m != n) = !(m == n) := rfl
theorem adS {F : Type} (z : F) (rd : F → F) {N : Nat} (h : 0 < N) : lp z rd N = rd (lp z rd (N - 1)) := by
 cases N with
 | zero => omega
 | succ n => rfl
def ug (a b : List Txt) : Bool := (a.length == b.length) && iV (fun i x => x == b.getD i []) 0 a
def eqU (u v : Use) : Bool := u.1 == v.1 && (u.2.1 == v.2.1 && (u.2.2 == v.2.2 && true))
def Uy (a b : List Use) : Bool := (a.length == b.length) && iV (fun i x => eqU x (b.getD i bY)) 0 a
def zJ (a b : aK) : Bool := (a.1 == b.1) && ((a.2.1 == b.2.1) && (ug a.2.2.1 b.2.2.1 && (Uy a.2.2.2.1 b.2.2.2.1 && (ug a.2.2.2.2.1 b.2.2.2.2.1 && ug a.2.2.2.2.2 b.2.2.2.2.2))))
theorem YI {N : Nat} (hN : lim < N) {a b : List Txt} (ha : a.length ≤ 1048576) : ae3 N a b = some (ug a b) := by
 have hlim := aY
 unfold ae3 alP ug
 rw [lne]
 cases h : a.length == b.length with
 | false => rfl
 | true =>
  have h' : a.length = b.length := by simpa using h
  refine (dQ a _ (fun i x => x == b.getD i []) (some false) (some true) (fun g i hi => ?_) (fun g => ?_) N (by omega)).trans ?_
  ·unfold QG
   simp only [dlt hi, dlt (show i < b.length by omega), dge, gAt hi, cond_true, wrS (i := i) (by omega)]
   simp only [xX]
   cases a[i] == b.getD i [] <;> rfl
  ·unfold QG
   rw [d_]; rfl
  ·cases iV (fun i x => x == b.getD i []) 0 a <;> rfl
theorem yU {N : Nat} (hN : lim < N) {a b : List Txt} (ha : a.length ≤ 1048576) : adD N a b = some (ug a b) := by
 have hlim := aY
 unfold adD ao8 ug
 rw [lne]
 cases h : a.length == b.length with
 | false => rfl
 | true =>
  have h' : a.length = b.length := by simpa using h
  refine (dQ a _ (fun i x => x == b.getD i []) (some false) (some true) (fun g i hi => ?_) (fun g => ?_) N (by omega)).trans ?_
  ·unfold OG
   simp only [dlt hi, dlt (show i < b.length by omega), dge, gAt hi, cond_true, wrS (i := i) (by omega)]
   simp only [xX]
   cases a[i] == b.getD i [] <;> rfl
  ·unfold OG
   rw [d_]; rfl
  ·cases iV (fun i x => x == b.getD i []) 0 a <;> rfl
theorem X0 {N : Nat} (hN : lim < N) {a b : List Use} (ha : a.length ≤ 1048576) : ale N a b = some (Uy a b) := by
 have hlim := aY
 unfold ale aq6 Uy
 rw [lne]
 cases h : a.length == b.length with
 | false => rfl
 | true =>
  have h' : a.length = b.length := by simpa using h
  refine (dQ a _ (fun i x => eqU x (b.getD i bY)) (some false) (some true) (fun g i hi => ?_) (fun g => ?_) N (by omega)).trans ?_
  ·unfold Qk
   simp only [dlt hi, dlt (show i < b.length by omega), dge, gAt hi, cond_true, wrS (i := i) (by omega)]
   simp only [xX]
   show (bif !(eqU a[i] (b.getD i bY)) then some false else g ((i + 1 : Nat) : Int)) = _
   cases eqU a[i] (b.getD i bY) <;> rfl
  ·unfold Qk
   rw [d_]; rfl
  ·cases iV (fun i x => eqU x (b.getD i bY)) 0 a <;> rfl
theorem axq {N : Nat} (hN : lim < N) {a b : aK} (ha : smW a) : aic N a b = some (zJ a b) := by
 have hlim := aY
 have h1 := ha.2.1.1
 unfold aic apF zJ Uy
 rw [akX, akX, lne]
 simp only [au (YI hN (b := b.2.2.1) ha.1.1), au (YI hN (b := b.2.2.2.2.1) ha.2.2.1.1), au (YI hN (b := b.2.2.2.2.2) ha.2.2.2.1)]
 cases h : a.2.2.2.1.length == b.2.2.2.1.length with
 | false =>
  cases a.1 == b.1 <;> cases a.2.1 == b.2.1 <;> cases ug a.2.2.1 b.2.2.1 <;> rfl
 | true =>
  have h' : a.2.2.2.1.length = b.2.2.2.1.length := by simpa using h
  have k : YC N a b N 0 = some (iV (fun i x => eqU x (b.2.2.2.1.getD i bY)) 0 a.2.2.2.1) := by
   refine (dQ a.2.2.2.1 _ (fun i x => eqU x (b.2.2.2.1.getD i bY)) (some false) (some true) (fun g i hi => ?_) (fun g => ?_) N (by omega)).trans ?_
   ·unfold PQ
    simp only [dlt hi, dlt (show i < b.2.2.2.1.length by omega), dge, gAt hi, cond_true, wrS (i := i) (by omega)]
    simp only [xX]
    show (bif !(eqU a.2.2.2.1[i] (b.2.2.2.1.getD i bY)) then some false else g ((i + 1 : Nat) : Int)) = _
    cases eqU a.2.2.2.1[i] (b.2.2.2.1.getD i bY) <;> rfl
   ·unfold PQ
    rw [d_]; rfl
   ·cases iV (fun i x => eqU x (b.2.2.2.1.getD i bY)) 0 a.2.2.2.1 <;> rfl
  rw [k]
  cases a.1 == b.1 <;> cases a.2.1 == b.2.1 <;> cases ug a.2.2.1 b.2.2.1 <;> cases ug a.2.2.2.2.1 b.2.2.2.2.1 <;> cases ug a.2.2.2.2.2 b.2.2.2.2.2 <;> cases iV (fun i x => eqU x (b.2.2.2.1.getD i bY)) 0 a.2.2.2.1 <;> rfl
theorem ap5 {N : Nat} (hN : lim < N) {a b : aK} (ha : smW a) : Vz N a b = some (zJ a b) := by
 unfold Vz zJ
 simp only [au (yU hN (b := b.2.2.1) ha.1.1), au (X0 hN (b := b.2.2.2.1) ha.2.1.1), au (yU hN (b := b.2.2.2.2.1) ha.2.2.1.1), au (yU hN (b := b.2.2.2.2.2) ha.2.2.2.1)]
 cases a.1 == b.1 <;> cases a.2.1 == b.2.1 <;> cases ug a.2.2.1 b.2.2.1 <;> cases Uy a.2.2.2.1 b.2.2.2.1 <;> cases ug a.2.2.2.2.1 b.2.2.2.2.1 <;> rfl
theorem WN {α β : Type} (l : List α) (m : List β) (p : α → β → Bool) : (l.any fun x => m.any fun y => p x y) = m.any fun y => l.any fun x => p x y := by
 rw [Bool.eq_iff_iff]
 simp only [List.any_eq_true]
 constructor
 ·rintro ⟨x, hx, y, hy, h⟩; exact ⟨y, hy, x, hx, h⟩
 ·rintro ⟨y, hy, x, hx, h⟩; exact ⟨x, hx, y, hy, h⟩
theorem wJ (a b : aK) : iO a b = iO b a := by
 unfold iO
 rw [WN]
 congr 1
 funext u
 congr 1
 funext v
 exact BEq.comm
theorem Nl (l m : List Txt) : (l.any fun x => m.contains x) = m.any fun x => l.contains x := by
 simp only [List.contains_eq_any_beq]
 rw [WN]
 congr 1
 funext u
 congr 1
 funext v
 exact BEq.comm
theorem TJ (a b : aK) : iZ a b = iZ b a := by
 unfold iZ
 rw [Nl a.2.2.2.2.1 b.2.2.2.2.1, Nl a.2.2.2.2.1 b.2.2.2.2.2, Nl a.2.2.2.2.2 b.2.2.2.2.1]
 cases (b.2.2.2.2.1.any fun x => a.2.2.2.2.1.contains x) <;> cases (b.2.2.2.2.2.any fun x => a.2.2.2.2.1.contains x) <;> cases (b.2.2.2.2.1.any fun x => a.2.2.2.2.2.contains x) <;> rfl
theorem acW (b : af) (x y : List Txt) : ik b x y = ik b y x := by
 unfold ik
 congr 1
 funext f
 cases x.contains f.1 <;> cases y.contains f.1 <;> cases x.contains f.2 <;> cases y.contains f.2 <;> rfl
theorem VX {N : Nat} (hN : lim < N) {b : af} (hb : b.1.length ≤ 1048576) {x y : List Txt} (hx : x.length ≤ 1048576) (hy : y.length ≤ 1048576) : adX N b x y = some (ik b x y) := by
 have hlim := aY
 unfold adX an2
 refine (dQ x _ (fun _ u => !(y.any fun v => ry b u v)) (some true) (some false) (fun g i hi => ?_) (fun g => ?_) N (by omega)).trans ?_
 ·unfold QF
  simp only [dlt hi, dge, gAt hi, cond_true, wrS (i := i) (by omega)]
  rw [au (afP hN hb _ hy)]
  cases y.any fun v => ry b x[i] v <;> rfl
 ·unfold QF
  rw [d_]; rfl
 ·rw [fU, not_any, ab3]
  cases x.any fun u => y.any fun v => ry b u v <;> rfl
def lT (b : af) (w : aK) (u : Use) : Int :=
 bif u.2.1 == 2 then (bif ik b w.2.2.1 (dh b u.1).2.2.2.2 then 8 else bif decide ((xu (dh b u.1).2.2.2.2 w.2.2.1 : Int) > 8) then 5 else 0)
 else bif (dh b u.1).2.2.2.2.all (fun x => w.2.2.1.contains x) then 0 else 8
def mi (b : af) (w : aK) (u : Use) : Int :=
 bif u.2.1 == 1 && decide ((dh b u.1).2.2.1 < u.2.2) then 9
 else bif u.2.1 == 2 && decide (IntKind.i64.wrap ((dh b u.1).2.2.2.1 + u.2.2) > (dh b u.1).2.1) then 10
 else bif w.2.1 == 2 && decide ((dh b u.1).2.2.2.1 > 0) then 11 else 0
def first (f : Use → Int) (l : List Use) : Int := ((l.find? fun u => f u != 0).map f).getD 0
theorem adW (f : Use → Int) (l : List Use) (z : Int) : ((l.find? fun u => f u != 0).map f).getD z = bif first f l != 0 then first f l else z := by
 unfold first
 cases h : l.find? fun u => f u != 0 with
 | none => rfl
 | some u =>
  have := List.find?_some h
  simp only [Option.map_some, Option.getD_some]
  have h2 : (f u != 0) = true := by simpa using this
  rw [h2]; rfl
def iJ (b : af) (w : aK) : Int := bif ik b w.2.2.1 w.2.2.1 then 8 else bif w.2.1 == 1 then first (lT b w) w.2.2.2.1 else 0
def kK (b : af) (w : aK) : Int := first (mi b w) w.2.2.2.1
theorem akw {N : Nat} (hN : lim < N) {b : af} {w : aK} (hb : smB b) (hw : smW w) (hk : fV b w = true) : alf N b w = some (kK b w) := by
 have hlim := aY
 have h1 := hw.2.1.1
 unfold alf am_ kK first
 refine Bl w.2.2.2.1 _ (fun u => mi b w u != 0) (mi b w) 0 (fun g i hi => ?_) (fun g => ?_) N (by omega)
 ·obtain ⟨h2, h3⟩ := jr hk hi
  unfold QD
  simp only [dlt hi, dge, gAt hi, cond_true, wrS (i := i) (by omega)]
  rw [au (Cm hN hb.2.1.1 _), decide_eq_true h2, decide_eq_true h3]
  simp only [cond_true, show b.2.1.getD (atB b w.2.2.2.1[i].1).toNat aJ = dh b w.2.2.2.1[i].1 from rfl]
  unfold mi
  cases w.2.2.2.1[i].2.1 == 1 <;> cases decide ((dh b w.2.2.2.1[i].1).2.2.1 < w.2.2.2.1[i].2.2) <;> cases w.2.2.2.1[i].2.1 == 2 <;> cases decide (IntKind.i64.wrap ((dh b w.2.2.2.1[i].1).2.2.2.1 + w.2.2.2.1[i].2.2) > (dh b w.2.2.2.1[i].1).2.1) <;> cases w.2.1 == 2 <;> cases decide ((dh b w.2.2.2.1[i].1).2.2.2.1 > 0) <;> rfl
 ·unfold QD
  rw [d_]; rfl
theorem N7 {N : Nat} (hN : lim < N) {b : af} {w : aK} (hb : smB b) (hw : smW w) (hk : fV b w = true) (c : Bool) : JS N b (c, w) (w.2.2.2.1.length : Int) N 0 = some (kK b w) := by
 have hlim := aY
 have h1 := hw.2.1.1
 unfold JS kK first
 refine Bl w.2.2.2.1 _ (fun u => mi b w u != 0) (mi b w) 0 (fun g i hi => ?_) (fun g => ?_) N (by omega)
 ·obtain ⟨h2, h3⟩ := jr hk hi
  unfold OM
  simp only [dlt hi, dge, gAt hi, cond_true, wrS (i := i) (by omega)]
  rw [au (Dq hN hb.2.1.1 _), decide_eq_true h2, decide_eq_true h3]
  simp only [cond_true, show b.2.1.getD (atB b w.2.2.2.1[i].1).toNat aJ = dh b w.2.2.2.1[i].1 from rfl]
  unfold mi
  cases w.2.2.2.1[i].2.1 == 1 <;> cases decide ((dh b w.2.2.2.1[i].1).2.2.1 < w.2.2.2.1[i].2.2) <;> cases w.2.2.2.1[i].2.1 == 2 <;> cases decide (IntKind.i64.wrap ((dh b w.2.2.2.1[i].1).2.2.2.1 + w.2.2.2.1[i].2.2) > (dh b w.2.2.2.1[i].1).2.1) <;> cases w.2.1 == 2 <;> cases decide ((dh b w.2.2.2.1[i].1).2.2.2.1 > 0) <;> rfl
 ·unfold OM
  rw [d_]; rfl
theorem aph {N : Nat} (hN : lim < N) {b : af} {w : aK} (hb : smB b) (hw : smW w) (hk : fV b w = true) : al0 N b w = some (iJ b w) := by
 have hlim := aY
 have h1 := hw.2.1.1
 unfold al0 ao4 iJ
 rw [au (VX hN hb.1.1 hw.1.1 hw.1.1)]
 cases ik b w.2.2.1 w.2.2.1 with
 | true => rfl
 | false =>
  simp only [cond_false]
  cases hkind : w.2.1 == 1 with
  | false =>
   unfold Zx
   rw [adS _ _ (by omega)]
   unfold Jj
   rw [hkind]
   cases decide ((0 : Int) < (w.2.2.2.1.length : Int)) <;> rfl
  | true =>
   unfold first
   refine Bl w.2.2.2.1 _ (fun u => lT b w u != 0) (lT b w) 0 (fun g i hi => ?_) (fun g => ?_) N (by omega)
   ·obtain ⟨h2, h3⟩ := jr hk hi
    have hs := hb.2.1.2 _ (ql h2 h3)
    unfold Jj
    rw [hkind]
    simp only [dlt hi, dge, gAt hi, cond_true, wrS (i := i) (by omega)]
    rw [au (Cm hN hb.2.1.1 _), decide_eq_true h2, decide_eq_true h3]
    simp only [cond_true, show b.2.1.getD (atB b w.2.2.2.1[i].1).toNat aJ = dh b w.2.2.2.1[i].1 from rfl]
    simp only [au (am2 hN hs.2.1 hw.1.1), au (VX hN hb.1.1 hw.1.1 hs.2.1), au (au4 hN hs.2.1 hw.1.1), akX]
    unfold lT
    cases w.2.2.2.1[i].2.1 == 2 <;> cases (dh b w.2.2.2.1[i].1).2.2.2.2.all (fun x => w.2.2.1.contains x) <;> cases ik b w.2.2.1 (dh b w.2.2.2.1[i].1).2.2.2.2 <;> cases decide ((xu (dh b w.2.2.2.1[i].1).2.2.2.2 w.2.2.1 : Int) > 8) <;> rfl
   ·unfold Jj
    rw [d_]; rfl
theorem acT {N : Nat} (hN : lim < N) {b : af} {w : aK} (hb : smB b) (hw : smW w) (hk : fV b w = true) (c : Bool) (hd : ∀ s ∈ b.2.1, s.2.2.2.2.Nodup) (hdw : w.2.2.1.Nodup) :
 Uf N b (c, w) (w.2.2.2.1.length : Int) N 0 = some (bif (bif w.2.1 == 1 then first (lT b w) w.2.2.2.1 else 0) != 0 then (bif w.2.1 == 1 then first (lT b w) w.2.2.2.1 else 0) else kK b w) := by
 have hlim := aY
 have h1 := hw.2.1.1
 unfold Uf
 cases hkind : w.2.1 == 1 with
 | false =>
  rw [adS _ _ (by omega)]
  unfold IE
  have e0 : Int.toNat (0 : Int) = 0 := rfl
  simp only [akX, hkind, Bool.not_false, cond_true, N7 hN hb hw hk c]
  cases w.2.2.2.1 with
  | nil => rfl
  | cons u us =>
   rw [show decide ((0 : Int) < ((u :: us).length : Int)) = true from decide_eq_true (by simp only [List.length_cons]; omega)]
   rfl
 | true =>
  simp only [cond_true]
  rw [← adW]
  refine Bl w.2.2.2.1 _ (fun u => lT b w u != 0) (lT b w) (kK b w) (fun g i hi => ?_) (fun g => ?_) N (by omega)
  ·obtain ⟨h2, h3⟩ := jr hk hi
   have hs := hb.2.1.2 _ (ql h2 h3)
   unfold IE
   simp only [akX, hkind, Bool.not_true, cond_false, dlt hi, dge, gAt hi, cond_true, wrS (i := i) (by omega)]
   rw [au (Dq hN hb.2.1.1 _), decide_eq_true h2, decide_eq_true h3]
   simp only [cond_true, show b.2.1.getD (atB b w.2.2.2.1[i].1).toNat aJ = dh b w.2.2.2.1[i].1 from rfl]
   simp only [au (qR hN hs.2.1 hw.1.1), au (QX hN hb.1.1 hs.2.1 hw.1.1), au (abl (N := N) hs.2.1 hw.1.1), aaF (hd _ (ql h2 h3)) hdw]
   rw [acW b (dh b w.2.2.2.1[i].1).2.2.2.2 w.2.2.1]
   unfold lT
   cases w.2.2.2.1[i].2.1 == 2 <;> cases (dh b w.2.2.2.1[i].1).2.2.2.2.all (fun x => w.2.2.1.contains x) <;> cases ik b w.2.2.1 (dh b w.2.2.2.1[i].1).2.2.2.2 <;> cases decide ((xu (dh b w.2.2.2.1[i].1).2.2.2.2 w.2.2.1 : Int) > 8) <;> rfl
  ·unfold IE
   rw [d_]
   exact N7 hN hb hw hk c
end Go.MC
namespace Go.MC
open Go.MC.F
theorem ahB {α : Type} (l : List α) (rd : (Int → Int → Int → List Txt → List Use → List Txt → List Txt → Option (Int × aK)) → Int → Int → Int → List Txt → List Use → List Txt → List Txt → Option (Int × aK)) (p : α → Bool) (c : aK)
 (hstep : ∀ (g : Int → Int → Int → List Txt → List Use → List Txt → List Txt → Option (Int × aK)) (i : Nat) (h : i < l.length), rd g (i : Int) c.1 c.2.1 c.2.2.1 c.2.2.2.1 c.2.2.2.2.1 c.2.2.2.2.2 = bif p l[i] then some ((i : Int), c) else g ((i + 1 : Nat) : Int) c.1 c.2.1 c.2.2.1 c.2.2.2.1 c.2.2.2.2.1 c.2.2.2.2.2)
 (hend : ∀ (g : Int → Int → Int → List Txt → List Use → List Txt → List Txt → Option (Int × aK)), rd g (l.length : Int) c.1 c.2.1 c.2.2.1 c.2.2.2.1 c.2.2.2.2.1 c.2.2.2.2.2 = some (-1, c)) (N : Nat) (hN : l.length < N) :
 lp (fun _ _ _ _ _ _ _ => none) rd N 0 c.1 c.2.1 c.2.2.1 c.2.2.2.1 c.2.2.2.2.1 c.2.2.2.2.2 = some (jo p 0 l, c) := by
 have := iT l (fun (g : Int → Int → Int → List Txt → List Use → List Txt → List Txt → Option (Int × aK)) i (d : aK) => g (i : Int) d.1 d.2.1 d.2.2.1 d.2.2.2.1 d.2.2.2.2.1 d.2.2.2.2.2) (fun _ _ _ _ _ _ _ => none) rd (fun i d x => bif p x then .inr (some ((i : Int), d)) else .inl d) (fun d => some (-1, d)) (fun _ d => d = c)
  (fun g i st h hi => ⟨by
   subst hi
   rw [hstep g i h]
   cases p l[i] <;> rfl, fun st' hs => by
   subst hi
   cases hp : p l[i] with
   | true => rw [hp] at hs; cases hs
   | false => rw [hp] at hs; cases hs; rfl⟩) (fun g d hd => by subst hd; exact hend g) N hN c rfl
 refine this.trans ?_
 have : ∀ (l : List α) i, mP (fun d => some (-1, d)) (gJ (fun i (d : aK) x => bif p x then Sum.inr (some ((i : Int), d)) else Sum.inl d) i l c) = some (jo p i l, c) := by
  intro l
  induction l with
  | nil => intro i; rfl
  | cons x xs ih =>
   intro i
   simp only [gJ, jo]
   cases p x with
   | false => simpa using ih (i + 1)
   | true => rfl
 exact this l 0
theorem aeo {N : Nat} (hN : lim < N) {b : af} {w : aK} (hb : smB b) (hw : smW w) : f_1 N b.2.2.2.1 w = some (b.2.2.2.1.any fun p => iO p.1 w, w) := by
 have hlim := aY
 have hlp := hb.2.2.2.1
 unfold f_1
 have h : f_5 N b.2.2.2.1 w = some (jo (fun p : dm => iO p.1 w) 0 b.2.2.2.1, w) := by
  unfold f_5 aw9
  refine ahB b.2.2.2.1 _ (fun p : dm => iO p.1 w) w (fun g i hi => ?_) (fun g => ?_) N (by omega)
  ·unfold Zm
   simp only [dlt hi, dge, gAt hi, cond_true, wrS (i := i) (by omega)]
   have h1 : ai7 N b.2.2.2.1[i] (w.1, w.2.1, w.2.2.1, w.2.2.2.1, w.2.2.2.2.1, w.2.2.2.2.2) = some (iO b.2.2.2.1[i].1 w, w) := by
    show ai7 N b.2.2.2.1[i] w = _
    unfold ai7
    rw [au (WW hN (hb.2.2.2.2 _ (List.getElem_mem hi)) hw)]
   rw [au h1]
  ·unfold Zm
   rw [d_]; rfl
 rw [au h, ja]
theorem aa3 {N : Nat} (hN : lim < N) {b : af} {w : aK} (hb : smB b) (hw : smW w) : f_2 N b.2.2.2.1 w = some (b.2.2.2.1.any fun p => iZ p.1 w, w) := by
 have hlim := aY
 have hlp := hb.2.2.2.1
 unfold f_2
 have h : f_6 N b.2.2.2.1 w = some (jo (fun p : dm => iZ p.1 w) 0 b.2.2.2.1, w) := by
  unfold f_6 awc
  refine ahB b.2.2.2.1 _ (fun p : dm => iZ p.1 w) w (fun g i hi => ?_) (fun g => ?_) N (by omega)
  ·unfold Zg
   simp only [dlt hi, dge, gAt hi, cond_true, wrS (i := i) (by omega)]
   have h1 : ai5 N b.2.2.2.1[i] (w.1, w.2.1, w.2.2.1, w.2.2.2.1, w.2.2.2.2.1, w.2.2.2.2.2) = some (iZ b.2.2.2.1[i].1 w, w) := by
    show ai5 N b.2.2.2.1[i] w = _
    unfold ai5
    rw [au (Vo hN (hb.2.2.2.2 _ (List.getElem_mem hi)) hw)]
   rw [au h1]
  ·unfold Zg
   rw [d_]; rfl
 rw [au h, ja]
def N8 (b : af) (n : Int) : dm := b.2.2.2.1.getD (bM b n).toNat bU
def dX (b : af) (w : aK) : Int :=
 bif !bf b then 1 else bif !eU w then 2 else bif !fV b w then 2 else
 bif decide (bM b w.1 ≥ 0) then (bif zJ (N8 b w.1).1 w then 0 else 3) else
 bif decide (w.1 ≤ b.2.2.2.2) then 4 else bif decide ((b.2.2.2.1.length : Int) ≥ 6) then 5 else
 bif b.2.2.2.1.any (fun p => iO p.1 w) then 6 else bif b.2.2.2.1.any (fun p => iZ p.1 w) then 7 else
 bif iJ b w != 0 then iJ b w else kK b w
theorem XZ {b : af} {n : Int} (h : 0 ≤ bM b n) : bM b n < b.2.2.2.1.length := by
 have := Ph (fun p : dm => p.1.1 == n) b.2.2.2.1 0 h
 unfold bM
 omega
theorem V9 {b : af} {n : Int} (h : 0 ≤ bM b n) : N8 b n ∈ b.2.2.2.1 := by
 have := XZ h
 exact j_ (by omega) _
theorem apb {N : Nat} (hN : lim < N) {b : af} {w : aK} (hb : smB b) (hw : smW w) : amu N b w = some (dX b w) := by
 have hlim := aY
 have hlp := hb.2.2.2.1
 unfold amu aoO dX
 rw [au (nJ hN hb)]
 cases hbk : bf b with
 | false => rfl
 | true =>
  simp only [Bool.not_true, cond_false]
  rw [au (Ro hN hw)]
  cases eU w with
  | false => rfl
  | true =>
   simp only [Bool.not_true, cond_false]
   rw [au (ahn hN hb hw)]
   cases hk : fV b w with
   | false => rfl
   | true =>
    simp only [Bool.not_true, cond_false]
    rw [au (Q_ hN hb w.1)]
    cases hp : decide (bM b w.1 ≥ 0) with
    | true =>
     have hp' : 0 ≤ bM b w.1 := of_decide_eq_true hp
     rw [show decide (bM b w.1 < (b.2.2.2.1.length : Int)) = true from decide_eq_true (XZ hp')]
     simp only [cond_true]
     rw [au (show aic N (b.2.2.2.1.getD (bM b w.1).toNat bU).1 w = _ from axq hN (hb.2.2.2.2 _ (V9 hp')))]
     show (bif zJ (N8 b w.1).1 w then some 0 else some 3) = _
     cases zJ (N8 b w.1).1 w <;> rfl
    | false =>
     simp only [cond_false]
     cases decide (w.1 ≤ b.2.2.2.2) with
     | true => rfl
     | false =>
      simp only [cond_false]
      cases decide ((b.2.2.2.1.length : Int) ≥ 6) with
      | true => rfl
      | false =>
       simp only [cond_false]
       have k2 : RD N b w N 0 = some (bif b.2.2.2.1.any (fun p => iZ p.1 w) then 7 else bif iJ b w != 0 then iJ b w else kK b w) := by
        refine (dQ b.2.2.2.1 _ (fun _ p => !iZ p.1 w) (some 7) (some (bif iJ b w != 0 then iJ b w else kK b w)) (fun g i hi => ?_) (fun g => ?_) N (by omega)).trans ?_
        ·unfold P8
         simp only [dlt hi, dge, gAt hi, cond_true, wrS (i := i) (by omega)]
         rw [au (Wi hN hw (hb.2.2.2.2 _ (List.getElem_mem hi))), TJ w]
         cases iZ b.2.2.2.1[i].1 w <;> rfl
        ·unfold P8
         rw [d_, cond_false, au (aph hN hb hw hk), au (akw hN hb hw hk)]
         cases iJ b w != 0 <;> rfl
        ·rw [fU, not_any]
         cases b.2.2.2.1.any fun p => iZ p.1 w <;> rfl
       refine (dQ b.2.2.2.1 _ (fun _ p => !iO p.1 w) (some 6) (some (bif b.2.2.2.1.any (fun p => iZ p.1 w) then 7 else bif iJ b w != 0 then iJ b w else kK b w)) (fun g i hi => ?_) (fun g => ?_) N (by omega)).trans ?_
       ·have hpi := hb.2.2.2.2 _ (List.getElem_mem hi)
        unfold PG
        simp only [dlt hi, dge, gAt hi, cond_true, wrS (i := i) (by omega)]
        rw [au (ZJ hN hw), au (ZJ hN hpi), au (agJ hN hw hpi), wJ w]
        cases iO b.2.2.2.1[i].1 w <;> rfl
       ·unfold PG
        rw [d_, cond_false]
        exact k2
       ·rw [fU, not_any]
        cases b.2.2.2.1.any fun p => iO p.1 w <;> rfl
theorem ajB {b : af} (h : bf b = true) : ∀ s ∈ b.2.1, s.2.2.2.2.Nodup := by
 intro s hs
 simp only [bf, vk, Bool.and_eq_true] at h
 obtain ⟨i, hi⟩ := List.getElem?_of_mem hs
 have := gu.1 h.2.2.2.1.2 i s hi
 simp only [l_, jT, Bool.and_eq_true] at this
 exact AU this.1.2.2.2.2.1
theorem abW {w : aK} (h : eU w = true) : w.2.2.1.Nodup := by
 simp only [eU, Bool.and_eq_true] at h
 exact AU h.2.2.2.2.2.2.2.2.1
theorem ajr {b : af} (h : bf b = true) : ((b.2.2.2.1.length : Int) == 6) = decide ((b.2.2.2.1.length : Int) ≥ 6) := by
 simp only [bf, nV, Bool.and_eq_true] at h
 have h1 : ¬ ((b.2.2.2.1.length : Int) > 6) := by simpa using h.2.2.2.2.1
 by_cases h6 : (b.2.2.2.1.length : Int) = 6
 ·rw [h6]; rfl
 ·rw [beq_eq_false_iff_ne.2 h6, decide_eq_false (by omega)]
theorem aqU {N : Nat} (hN : lim < N) {b : af} {w : aK} (hb : smB b) (hw : smW w) : alJ N b w = some (dX b w) := by
 have hlim := aY
 have hlp := hb.2.2.2.1
 unfold alJ alT dX
 rw [au (nR hN hb)]
 cases hbk : bf b with
 | false => rfl
 | true =>
  simp only [Bool.not_true, cond_false]
  rw [au (QP hN hw)]
  cases hwk : eU w with
  | false => rfl
  | true =>
   simp only [Bool.not_true, cond_false]
   rw [au (VJ hN hb hw)]
   cases hk : fV b w with
   | false => rfl
   | true =>
    simp only [Bool.not_true, cond_false]
    rw [au (He hN hb w.1)]
    cases hp : decide (bM b w.1 ≥ 0) with
    | true =>
     have hp' : 0 ≤ bM b w.1 := of_decide_eq_true hp
     rw [show decide (bM b w.1 < (b.2.2.2.1.length : Int)) = true from decide_eq_true (XZ hp')]
     simp only [cond_true]
     rw [au (show Vz N (b.2.2.2.1.getD (bM b w.1).toNat bU).1 w = _ from ap5 hN (hb.2.2.2.2 _ (V9 hp')))]
     show (bif zJ (N8 b w.1).1 w then some 0 else some 3) = _
     cases zJ (N8 b w.1).1 w <;> rfl
    | false =>
     simp only [cond_false]
     cases decide (w.1 ≤ b.2.2.2.2) with
     | true => rfl
     | false =>
      simp only [cond_false]
      rw [ajr hbk]
      cases decide ((b.2.2.2.1.length : Int) ≥ 6) with
      | true => rfl
      | false =>
       simp only [cond_false]
       rw [au (aeo hN hb hw)]
       cases b.2.2.2.1.any fun p => iO p.1 w with
       | true => rfl
       | false =>
        simp only [cond_false]
        rw [au (aa3 hN hb hw)]
        cases b.2.2.2.1.any fun p => iZ p.1 w with
        | true => rfl
        | false =>
         simp only [cond_false]
         rw [au (QX hN hb.1.1 hw.1.1 hw.1.1)]
         unfold iJ
         cases ik b w.2.2.1 w.2.2.1 with
         | true => rfl
         | false => exact acT hN hb hw hk false (ajB hbk) (abW hwk)
end Go.MC
namespace Go.MC
open Go.MC.F
def jS (n : Txt) (sp : List bi) : Int := jo (fun s : bi => s.1 == n) 0 sp
theorem TE : ∀ (sp : List bi) (n : Txt) (i : Nat), jo (fun s : bi => s.1 == n) i sp = jo (fun x => x == n) i (sp.map (·.1))
 | [], _, _ => rfl
 | s :: sp, n, i => by simp only [List.map_cons, jo]; rw [TE sp n (i + 1)]
theorem DW {sp sq : List bi} (h : sp.map (·.1) = sq.map (·.1)) (n : Txt) : jS n sp = jS n sq := by
 unfold jS; rw [TE, TE, h]
theorem wM {α β : Type} {l : List α} {k : Nat} {v : α} (f : α → β) (h : (hk : k < l.length) → f v = f l[k]) : (l.set k v).map f = l.map f := by
 refine List.ext_getElem (by simp) fun i h1 h2 => ?_
 simp only [List.length_map, List.length_set] at h1 h2
 simp only [List.getElem_map, List.getElem_set]
 by_cases e : k = i
 ·subst e; simp [h h2]
 ·simp [e]
theorem sAt {α : Type} {l : List α} {i : Nat} (x : α) : l.set (Int.toNat (i : Int)) x = l.set i x := by rw [Int.toNat_natCast]
theorem gS' {α : Type} {l : List α} {i : Nat} {x : α} (h : i < l.length) (d : α) : (l.set i x).getD i d = x := by
 rw [List.getD_eq_getElem?_getD, List.getElem?_set_self h]; rfl
theorem sS' {α : Type} {l : List α} {i : Nat} {x y : α} : (l.set i x).set i y = l.set i y := List.set_set ..
theorem uy {σ α ρ : Type} (f : σ → α → σ) (fin : σ → Option ρ) : ∀ (xs : List α) (i : Nat) (d : σ), mP fin (gJ (fun _ d x => (Sum.inl (f d x) : σ ⊕ Option ρ)) i xs d) = fin (xs.foldl f d)
 | [], _, _ => rfl
 | x :: xs, i, d => by
  simp only [gJ, List.foldl_cons]
  exact uy f fin xs (i + 1) (f d x)
end Go.MC
namespace Go.MC
open Go.MC.F
def vg (w : aK) (u : Use) (s : bi) : bi :=
 (s.1, s.2.1, (bif u.2.1 == 1 then IntKind.i64.wrap (s.2.2.1 - u.2.2) else s.2.2.1), (bif u.2.1 == 2 then IntKind.i64.wrap (s.2.2.2.1 + u.2.2) else s.2.2.2.1), (bif u.2.1 != 1 then uw s.2.2.2.2 w.2.2.1 else s.2.2.2.2))
def TC (w : aK) (sp : List bi) (u : Use) : List bi := sp.set (jS u.1 sp).toNat (vg w u (sp.getD (jS u.1 sp).toNat aJ))
def afR (n : Nat) (s : bi) : Prop := smT s.1 ∧ Asc s.2.2.2.2 ∧ (∀ x ∈ s.2.2.2.2, smT x) ∧ s.2.2.2.2.length ≤ n
structure Oj (b : af) (i : Nat) (sp : List bi) : Prop where
 names : sp.map (·.1) = b.2.1.map (·.1)
 good : ∀ s ∈ sp, afR (8 + 8 * i) s
theorem Oj.len {b : af} {i : Nat} {sp : List bi} (h : Oj b i sp) : sp.length = b.2.1.length := by
 have := congrArg List.length h.names
 simpa using this
theorem ajG {w : aK} {u : Use} {n : Nat} {s : bi} (h : afR n s) (hw : w.2.2.1.length ≤ 8) (hx : ∀ x ∈ w.2.2.1, smT x) : afR (n + 8) (vg w u s) := by
 obtain ⟨h1, h2, h3, h4⟩ := h
 unfold vg afR
 refine ⟨h1, ?_⟩
 simp only
 cases u.2.1 != 1 with
 | false => exact ⟨h2, h3, by simp only [cond_false]; omega⟩
 | true =>
  simp only [cond_true]
  have := NP w.2.2.1 s.2.2.2.2
  refine ⟨Ai _ h2, fun x hm => ?_, by omega⟩
  rcases ou.1 hm with h | h
  ·exact h3 x h
  ·exact hx x h
theorem Oj.step {b : af} {i : Nat} {sp : List bi} (h : Oj b i sp) {w : aK} (u : Use) (hw : w.2.2.1.length ≤ 8) (hx : ∀ x ∈ w.2.2.1, smT x) : Oj b (i + 1) (TC w sp u) := by
 refine ⟨?_, fun s hs => ?_⟩
 ·rw [← h.names]
  refine wM _ fun hk => ?_
  unfold vg
  simp only [List.getD_eq_getElem?_getD, List.getElem?_eq_getElem hk, Option.getD_some]
 ·have e : 8 + 8 * (i + 1) = 8 + 8 * i + 8 := by omega
  rw [e]
  by_cases hk : (jS u.1 sp).toNat < sp.length
  ·rcases List.mem_or_eq_of_mem_set hs with hs | hs
   ·obtain ⟨h1, h2, h3, h4⟩ := h.good s hs
    exact ⟨h1, h2, h3, by omega⟩
   ·subst hs
    exact ajG (h.good _ (j_ hk _)) hw hx
  ·unfold TC at hs
   rw [List.set_eq_of_length_le (by omega)] at hs
   obtain ⟨h1, h2, h3, h4⟩ := h.good s hs
   exact ⟨h1, h2, h3, by omega⟩
theorem Oj.at {b : af} {i : Nat} {sp : List bi} (h : Oj b i sp) {w : aK} (hk : fV b w = true) {j : Nat} (hj : j < w.2.2.2.1.length) : 0 ≤ jS w.2.2.2.1[j].1 sp ∧ jS w.2.2.2.1[j].1 sp < (sp.length : Int) := by
 have h1 := jr hk hj
 rw [DW h.names, h.len]
 exact h1
theorem LH {N : Nat} (hN : lim < N) {nx : Int → List bi → Option af} {b0 : List Foe} {b2 : List Txt} {b3 : List dm} {b4 : Int} {w : aK} {t i : Int} {k : Nat} {n : Txt} {role am : Int} {sp : List bi} (hk : k < sp.length) (hw : w.2.2.1.length ≤ 8) (hs : (sp.getD k aJ).2.2.2.2.length ≤ 1000) :
 rO N nx b0 b2 b3 b4 w t i (k : Int) n role am N 0 sp = nx (IntKind.i64.wrap (i + 1)) (bif role != 1 then sp.set k ((sp.getD k aJ).1, (sp.getD k aJ).2.1, (sp.getD k aJ).2.2.1, (sp.getD k aJ).2.2.2.1, uw (sp.getD k aJ).2.2.2.2 w.2.2.1) else sp) := by
 have hlim := aY
 cases hr : role != 1 with
 | false =>
  unfold rO
  rw [adS _ _ (show 0 < N by omega)]
  unfold tY
  rw [hr, cond_false]
  cases decide ((0 : Int) < (w.2.2.1.length : Int)) <;> rfl
 | true =>
  rw [cond_true]
  unfold rO
  have := iT w.2.2.1 (fun (g : Int → List bi → Option af) i (d : List bi) => g (i : Int) d) (fun _ _ => none) (tY N nx b0 b2 b3 b4 w t i (k : Int) n role am)
   (fun _ d x => .inl (d.set k ((d.getD k aJ).1, (d.getD k aJ).2.1, (d.getD k aJ).2.2.1, (d.getD k aJ).2.2.2.1, qX (d.getD k aJ).2.2.2.2 x))) (fun d => nx (IntKind.i64.wrap (i + 1)) d) (fun j d => d.length = sp.length ∧ (d.getD k aJ).2.2.2.2.length ≤ 1000 + j)
   (fun g j d h hi => ⟨by
    obtain ⟨h1, h2⟩ := hi
    have hkd : k < d.length := by omega
    unfold tY
    simp only [dlt h, dge, gAt h, xX, sAt, hr, cond_true, wrS (i := j) (by omega), dlt hkd, au (ack hN (show (d.getD k aJ).2.2.2.2.length ≤ 1048576 by omega) _)]
    rfl, fun st' hs => by
    cases hs
    obtain ⟨h1, h2⟩ := hi
    refine ⟨by simp [h1], ?_⟩
    rw [gS' (show k < d.length by omega)]
    have := sQ (d.getD k aJ).2.2.2.2 w.2.2.1[j]
    show (qX (d.getD k aJ).2.2.2.2 w.2.2.1[j]).length ≤ 1000 + (j + 1)
    omega⟩) (fun g d _ => by
    unfold tY
    rw [d_]; rfl) N (by omega) sp ⟨rfl, by omega⟩
  refine this.trans ?_
  have : ∀ (xs : List Txt) (j : Nat) (d : List bi), k < d.length → mP (fun d => nx (IntKind.i64.wrap (i + 1)) d) (gJ (fun _ (d : List bi) x => (Sum.inl (d.set k ((d.getD k aJ).1, (d.getD k aJ).2.1, (d.getD k aJ).2.2.1, (d.getD k aJ).2.2.2.1, qX (d.getD k aJ).2.2.2.2 x)) : List bi ⊕ Option af)) j xs d)
   = nx (IntKind.i64.wrap (i + 1)) (d.set k ((d.getD k aJ).1, (d.getD k aJ).2.1, (d.getD k aJ).2.2.1, (d.getD k aJ).2.2.2.1, uw (d.getD k aJ).2.2.2.2 xs)) := by
   intro xs
   induction xs with
   | nil =>
    intro j d hd
    simp only [gJ, mP]
    congr 1
    show d = d.set k (d.getD k aJ)
    rw [List.getD_eq_getElem?_getD, List.getElem?_eq_getElem hd, Option.getD_some, List.set_getElem_self]
   | cons x xs ih =>
    intro j d hd
    simp only [gJ]
    rw [ih _ _ (by simpa using hd), gS' hd, sS']
    rfl
  exact this w.2.2.1 0 sp hk
def acg (b : af) (w : aK) : af := (b.1, w.2.2.2.1.foldl (TC w) b.2.1, b.2.2.1, b.2.2.2.1 ++ [(w, false)], w.1)
theorem aoD {b : af} (hb : smB b) (hs : ∀ s ∈ b.2.1, fM s.2.2.2.2 8 = true) : Oj b 0 b.2.1 := by
 refine ⟨rfl, fun s h => ?_⟩
 have h1 := hb.2.1.2 s h
 have h2 := hs s h
 refine ⟨h1.1, afS h2, h1.2.2, ?_⟩
 unfold fM at h2
 simp only [Bool.and_eq_true, Bool.not_eq_true', decide_eq_false_iff_not] at h2
 omega
theorem ayo {N : Nat} (hN : lim < N) {b : af} {w : aK} (hb : smB b) (hw : smW w) (hs : ∀ s ∈ b.2.1, fM s.2.2.2.2 8 = true) (hk : fV b w = true) (h8 : w.2.2.1.length ≤ 8) (hu : w.2.2.2.1.length ≤ 8) :
 acf N b.1 b.2.1 b.2.2.1 b.2.2.2.1 w.1 w = some (acg b w) := by
 have hlim := aY
 have hx : ∀ x ∈ w.2.2.1, smT x := hw.1.2
 have hlp := hb.2.2.2.1
 have hls := hb.2.1.1
 unfold acf aef
 have := iT w.2.2.2.1 (fun (g : Int → List bi → Option af) i (d : List bi) => g (i : Int) d) (fun _ _ => none) (fun next => zk N (rO N next b.1 b.2.2.1 b.2.2.2.1 w.1 w 0) b.1 b.2.2.1 b.2.2.2.1 w.1 w 0 next)
  (fun _ d u => .inl (TC w d u)) (fun d => some (b.1, d, b.2.2.1, b.2.2.2.1 ++ [(w, false)], w.1)) (fun i d => Oj b i d)
  (fun g i d h hi => ⟨by
   obtain ⟨h1, h2⟩ := hi.at hk h
   have hld : d.length ≤ 1048576 := by rw [hi.len]; exact hls
   unfold zk
   simp only [dlt h, dge, gAt h, cond_true]
   rw [au (show xR N (b.1, d, b.2.2.1, b.2.2.2.1, w.1) w.2.2.2.1[i].1 = some (jS w.2.2.2.1[i].1 d) from Cm hN (b := (b.1, d, b.2.2.1, b.2.2.2.1, w.1)) hld _)]
   have hgood : (d.getD (jS w.2.2.2.1[i].1 d).toNat aJ).2.2.2.2.length ≤ 1000 := by
    have := (hi.good _ (j_ (show (jS w.2.2.2.1[i].1 d).toNat < d.length by omega) aJ)).2.2.2
    omega
   have hp : TC w d w.2.2.2.1[i] = d.set (jS w.2.2.2.1[i].1 d).toNat (vg w w.2.2.2.1[i] (d.getD (jS w.2.2.2.1[i].1 d).toNat aJ)) := rfl
   obtain ⟨k, ek⟩ : ∃ k : Nat, jS w.2.2.2.1[i].1 d = (k : Int) := ⟨_, (Int.toNat_of_nonneg h1).symm⟩
   rw [ek] at h1 h2 hgood hp ⊢
   rw [Int.toNat_natCast] at hgood hp
   have hkd : k < d.length := by omega
   simp only [dlt hkd, dge, cond_true, List.length_set, xX, sAt]
   rw [hp]
   unfold vg
   by_cases r1 : w.2.2.2.1[i].2.1 = 1
   ·have q1 : (w.2.2.2.1[i].2.1 == 1) = true := by rw [r1]; rfl
    have q2 : (w.2.2.2.1[i].2.1 == 2) = false := by rw [r1]; rfl
    have q3 : (w.2.2.2.1[i].2.1 != 1) = false := by rw [r1]; rfl
    simp only [q1, q2, q3, cond_true, cond_false]
    rw [LH hN (by simpa using hkd) h8 (by rw [gS' hkd]; exact hgood), q3, cond_false, wrS (i := i) (by omega)]
    rfl
   ·have q1 : (w.2.2.2.1[i].2.1 == 1) = false := beq_eq_false_iff_ne.2 r1
    have q3 : (w.2.2.2.1[i].2.1 != 1) = true := by simp [bne, q1]
    by_cases r2 : w.2.2.2.1[i].2.1 = 2
    ·have q2 : (w.2.2.2.1[i].2.1 == 2) = true := by rw [r2]; rfl
     simp only [q1, q2, q3, cond_true, cond_false]
     rw [LH hN (by simpa using hkd) h8 (by rw [gS' hkd]; exact hgood), q3, cond_true, wrS (i := i) (by omega), gS' hkd, sS']
     rfl
    ·have q2 : (w.2.2.2.1[i].2.1 == 2) = false := beq_eq_false_iff_ne.2 r2
     simp only [q1, q2, q3, cond_true, cond_false]
     rw [LH hN hkd h8 hgood, q3, cond_true, wrS (i := i) (by omega)]
     rfl, fun st' hs => by
   cases hs
   exact hi.step _ h8 hx⟩) (fun g d hd => by
   unfold zk
   rw [d_, cond_false, au (Ll hw)]
   have hg : decide ((b.2.2.2.1.length + [(w, false)].length) * 120 ≤ lim) = true := decide_eq_true (by simp only [List.length_cons, List.length_nil]; omega)
   rw [hg, cond_true]) N (by omega) b.2.1 (aoD hb hs)
 refine this.trans ?_
 rw [uy]
 rfl
theorem ar7 {N : Nat} (hN : lim < N) {b : af} {w : aK} (hb : smB b) (hw : smW w) (hs : ∀ s ∈ b.2.1, fM s.2.2.2.2 8 = true) (hk : fV b w = true) (h8 : w.2.2.1.length ≤ 8) (hu : w.2.2.2.1.length ≤ 8) :
 Ug N w b (w.2.2.2.1.length : Int) 0 (b.2.2.2.1 ++ [(w, false)]) N 0 b.2.1 = some (acg b w, 0) := by
 have hlim := aY
 have hx : ∀ x ∈ w.2.2.1, smT x := hw.1.2
 have hlp := hb.2.2.2.1
 have hls := hb.2.1.1
 unfold Ug
 have := iT w.2.2.2.1 (fun (g : Int → List bi → Option (af × Int)) i (d : List bi) => g (i : Int) d) (fun _ _ => none) (fun next => Jf N w b (w.2.2.2.1.length : Int) 0 (b.2.2.2.1 ++ [(w, false)]) next)
  (fun _ d u => .inl (TC w d u)) (fun d => some ((b.1, d, b.2.2.1, b.2.2.2.1 ++ [(w, false)], w.1), 0)) (fun i d => Oj b i d)
  (fun g i d h hi => ⟨by
   obtain ⟨h1, h2⟩ := hi.at hk h
   have hld : d.length ≤ 1048576 := by rw [hi.len]; exact hls
   unfold Jf
   simp only [dlt h, dge, gAt h, cond_true]
   rw [au (show IX N (b.1, d, b.2.2.1, b.2.2.2.1 ++ [(w, false)], w.1) w.2.2.2.1[i].1 = some (jS w.2.2.2.1[i].1 d) from Dq hN (b := (b.1, d, b.2.2.1, b.2.2.2.1 ++ [(w, false)], w.1)) hld _)]
   have hgd := hi.good _ (j_ (show (jS w.2.2.2.1[i].1 d).toNat < d.length by omega) aJ)
   have hgood : (d.getD (jS w.2.2.2.1[i].1 d).toNat aJ).2.2.2.2.length ≤ 1048576 := by
    have := hgd.2.2.2
    omega
   have hasc := hgd.2.1
   have hp : TC w d w.2.2.2.1[i] = d.set (jS w.2.2.2.1[i].1 d).toNat (vg w w.2.2.2.1[i] (d.getD (jS w.2.2.2.1[i].1 d).toNat aJ)) := rfl
   obtain ⟨k, ek⟩ : ∃ k : Nat, jS w.2.2.2.1[i].1 d = (k : Int) := ⟨_, (Int.toNat_of_nonneg h1).symm⟩
   rw [ek] at h1 h2 hgood hp hasc ⊢
   rw [Int.toNat_natCast] at hgood hp hasc
   have hkd : k < d.length := by omega
   have hboth : FT N (d.getD k aJ).2.2.2.2 w.2.2.1 = some (uw (d.getD k aJ).2.2.2.2 w.2.2.1) := by
    rw [abl hgood (show w.2.2.1.length ≤ 1048576 by omega), XN hasc]
   simp only [dlt hkd, dge, cond_true, List.length_set, xX, sAt]
   rw [hp]
   unfold vg
   by_cases r1 : w.2.2.2.1[i].2.1 = 1
   ·have q1 : (w.2.2.2.1[i].2.1 == 1) = true := by rw [r1]; rfl
    have q2 : (w.2.2.2.1[i].2.1 == 2) = false := by rw [r1]; rfl
    have q3 : (w.2.2.2.1[i].2.1 != 1) = false := by rw [r1]; rfl
    simp only [q1, q2, q3, cond_true, cond_false, wrS (i := i) (by omega)]
    rfl
   ·have q1 : (w.2.2.2.1[i].2.1 == 1) = false := beq_eq_false_iff_ne.2 r1
    have q3 : (w.2.2.2.1[i].2.1 != 1) = true := by simp [bne, q1]
    by_cases r2 : w.2.2.2.1[i].2.1 = 2
    ·have q2 : (w.2.2.2.1[i].2.1 == 2) = true := by rw [r2]; rfl
     simp only [q1, q2, q3, cond_true, cond_false, gS' hkd, sS', au hboth, decide_true, Bool.and_self, wrS (i := i) (by omega)]
     rfl
    ·have q2 : (w.2.2.2.1[i].2.1 == 2) = false := beq_eq_false_iff_ne.2 r2
     simp only [q1, q2, q3, cond_true, cond_false, gS' hkd, sS', au hboth, decide_true, Bool.and_self, wrS (i := i) (by omega)]
     rfl, fun st' hs => by
   cases hs
   exact hi.step _ h8 hx⟩) (fun g d hd => by
   unfold Jf
   rw [d_]; rfl) N (by omega) b.2.1 (aoD hb hs)
 refine this.trans ?_
 rw [uy]
 rfl
end Go.MC
namespace Go.MC
open Go.MC.F
theorem Hu {f : Use → Int} {l : List Use} (h : ∀ u, 0 ≤ f u) : 0 ≤ first f l := by
 unfold first
 cases l.find? fun u => f u != 0 with
 | none => exact Int.le_refl 0
 | some u => exact h u
theorem U1 (b : af) (w : aK) (u : Use) : 0 ≤ lT b w u := by
 unfold lT
 cases u.2.1 == 2 <;> cases ik b w.2.2.1 (dh b u.1).2.2.2.2 <;> cases decide ((xu (dh b u.1).2.2.2.2 w.2.2.1 : Int) > 8) <;> cases (dh b u.1).2.2.2.2.all (fun x => w.2.2.1.contains x) <;> decide
theorem RQ (b : af) (w : aK) (u : Use) : 0 ≤ mi b w u := by
 unfold mi
 cases u.2.1 == 1 && decide ((dh b u.1).2.2.1 < u.2.2) <;> cases u.2.1 == 2 && decide (IntKind.i64.wrap ((dh b u.1).2.2.2.1 + u.2.2) > (dh b u.1).2.1) <;> cases w.2.1 == 2 && decide ((dh b u.1).2.2.2.1 > 0) <;> decide
theorem UN (b : af) (w : aK) : 0 ≤ iJ b w := by
 unfold iJ
 cases ik b w.2.2.1 w.2.2.1 with
 | true => exact (by decide : (0 : Int) ≤ 8)
 | false =>
  cases w.2.1 == 1 with
  | true => exact Hu (U1 b w)
  | false => exact Int.le_refl 0
theorem Uh (b : af) (w : aK) : 0 ≤ kK b w := Hu (RQ b w)
theorem Dc (b : af) (w : aK) : 0 ≤ dX b w ∧ (5 ≤ dX b w → bM b w.1 < 0) ∧ (dX b w ≠ 1 → bf b = true) ∧ (dX b w = 0 → eU w = true ∧ fV b w = true) ∧ (dX b w = 0 → bM b w.1 < 0 → (b.2.2.2.1.length : Int) < 6) := by
 unfold dX
 cases bf b with
 | false => exact ⟨(by decide : (0 : Int) ≤ 1), fun h => absurd h (by decide : ¬ (5 : Int) ≤ 1), fun h => absurd rfl h, fun h => absurd h (by decide : ¬ (1 : Int) = 0), fun h => absurd h (by decide : ¬ (1 : Int) = 0)⟩
 | true =>
  cases eU w with
  | false => exact ⟨(by decide : (0 : Int) ≤ 2), fun h => absurd h (by decide : ¬ (5 : Int) ≤ 2), fun _ => rfl, fun h => absurd h (by decide : ¬ (2 : Int) = 0), fun h => absurd h (by decide : ¬ (2 : Int) = 0)⟩
  | true =>
   cases fV b w with
   | false => exact ⟨(by decide : (0 : Int) ≤ 2), fun h => absurd h (by decide : ¬ (5 : Int) ≤ 2), fun _ => rfl, fun h => absurd h (by decide : ¬ (2 : Int) = 0), fun h => absurd h (by decide : ¬ (2 : Int) = 0)⟩
   | true =>
    simp only [Bool.not_true, cond_false]
    by_cases hp : bM b w.1 ≥ 0
    ·rw [decide_eq_true hp, cond_true]
     cases zJ (N8 b w.1).1 w with
     | true => exact ⟨(by decide : (0 : Int) ≤ 0), fun h => absurd h (by decide : ¬ (5 : Int) ≤ 0), fun _ => trivial, fun _ => ⟨trivial, trivial⟩, fun _ h => by omega⟩
     | false => exact ⟨(by decide : (0 : Int) ≤ 3), fun h => absurd h (by decide : ¬ (5 : Int) ≤ 3), fun _ => trivial, fun _ => ⟨trivial, trivial⟩, fun _ h => by omega⟩
    ·rw [decide_eq_false hp, cond_false]
     refine ⟨?_, fun _ => by omega, fun _ => trivial, fun _ => ⟨trivial, trivial⟩, fun h0 _ => ?_⟩
     ·have h1 := UN b w
      have h2 := Uh b w
      cases decide (w.1 ≤ b.2.2.2.2) with
      | true => exact (by decide : (0 : Int) ≤ 4)
      | false =>
       cases decide ((b.2.2.2.1.length : Int) ≥ 6) with
       | true => exact (by decide : (0 : Int) ≤ 5)
       | false =>
        cases b.2.2.2.1.any (fun p => iO p.1 w) with
        | true => exact (by decide : (0 : Int) ≤ 6)
        | false =>
         cases b.2.2.2.1.any (fun p => iZ p.1 w) with
         | true => exact (by decide : (0 : Int) ≤ 7)
         | false =>
          cases iJ b w != 0 with
          | true => exact h1
          | false => exact h2
     ·by_cases h6 : (b.2.2.2.1.length : Int) ≥ 6
      ·rw [decide_eq_true h6] at h0
       cases h4 : decide (w.1 ≤ b.2.2.2.2) with
       | true => rw [h4] at h0; exact absurd h0 (by decide : ¬ (4 : Int) = 0)
       | false => rw [h4] at h0; exact absurd h0 (by decide : ¬ (5 : Int) = 0)
      ·omega
def jL (b : af) (w : aK) : af × Int :=
 bif dX b w == 1 then (([], [], [], [], 0), 1) else
 bif inB (dX b w) 2 4 then (b, dX b w) else
 bif decide (bM b w.1 ≥ 0) then (b, dX b w) else
 bif dX b w == 0 then (acg b w, dX b w) else ((b.1, b.2.1, b.2.2.1, b.2.2.2.1, w.1), dX b w)
theorem MH {b : af} (h : bf b = true) : ∀ s ∈ b.2.1, fM s.2.2.2.2 8 = true := by
 intro s hs
 simp only [bf, vk, Bool.and_eq_true] at h
 obtain ⟨i, hi⟩ := List.getElem?_of_mem hs
 have := gu.1 h.2.2.2.1.2 i s hi
 simp only [l_, jT, Bool.and_eq_true] at this
 exact this.1.2.2.2.2.1
theorem ahY {l : List Txt} {n : Int} (h : fM l n = true) : (l.length : Int) ≤ n := by
 unfold fM at h
 simp only [Bool.and_eq_true, Bool.not_eq_true', decide_eq_false_iff_not] at h
 omega
theorem Lp {w : aK} (h : eU w = true) : w.2.2.1.length ≤ 8 ∧ w.2.2.2.1.length ≤ 8 := by
 simp only [eU, sZ, Bool.and_eq_true, Bool.not_eq_true', decide_eq_false_iff_not] at h
 have := ahY h.2.2.2.2.2.2.2.2.1
 have := h.2.2.1.1
 omega
theorem XJ {b : af} {w : aK} (h8 : w.2.2.1.length ≤ 8) (hx : ∀ x ∈ w.2.2.1, smT x) : ∀ (us : List Use) (i : Nat) (sp : List bi), Oj b i sp → Oj b (i + us.length) (us.foldl (TC w) sp)
 | [], i, sp, h => h
 | u :: us, i, sp, h => by
  have := XJ h8 hx us (i + 1) (TC w sp u) (h.step u h8 hx)
  rw [List.foldl_cons, List.length_cons, show i + (us.length + 1) = i + 1 + us.length by omega]
  exact this
theorem aw0 {b : af} {w : aK} (hb : smB b) (hw : smW w) (hs : bf b = true) (hwk : eU w = true) (h6 : (b.2.2.2.1.length : Int) < 6) : smB (acg b w) := by
 obtain ⟨h8, hu⟩ := Lp hwk
 have := XJ h8 hw.1.2 w.2.2.2.1 0 b.2.1 (aoD hb (MH hs))
 refine ⟨hb.1, ⟨?_, fun s h => ?_⟩, hb.2.2.1, ?_, fun p h => ?_⟩
 ·show (w.2.2.2.1.foldl (TC w) b.2.1).length ≤ _
  rw [this.len]; exact hb.2.1.1
 ·obtain ⟨h1, h2, h3, h4⟩ := this.good s h
  exact ⟨h1, by omega, h3⟩
 ·show (b.2.2.2.1 ++ [(w, false)]).length ≤ _
  simp; omega
 ·rcases List.mem_append.1 (show p ∈ b.2.2.2.1 ++ [(w, false)] from h) with h | h
  ·exact hb.2.2.2.2 p h
  ·obtain rfl := List.mem_singleton.1 h
   exact hw
theorem asn {b : af} (hb : smB b) (n : Int) : smB (b.1, b.2.1, b.2.2.1, b.2.2.2.1, n) := hb
theorem Bi {N : Nat} (hN : lim < N) {b : af} {w : aK} (hb : smB b) (hw : smW w) : abd N b w = some (jL b w) := by
 obtain ⟨f1, f2, f3, f4, f5⟩ := Dc b w
 unfold abd jL
 rw [au (apb hN hb hw)]
 cases h1 : dX b w == 1 with
 | true => rfl
 | false =>
  simp only [cond_false]
  rw [au (vK hN hb), au (UM _ _ _)]
  cases inB (dX b w) 2 4 with
  | true => rfl
  | false =>
   simp only [cond_false]
   rw [au (Q_ hN hb _)]
   by_cases hp : bM b w.1 ≥ 0
   ·rw [decide_eq_true hp]; rfl
   ·rw [decide_eq_false hp]
    simp only [cond_false]
    cases h0 : dX b w == 0 with
    | true =>
     have e0 : dX b w = 0 := beq_iff_eq.1 h0
     obtain ⟨g1, g2⟩ := f4 e0
     have g3 := f3 (by omega)
     have g6 := f5 e0 (by omega)
     obtain ⟨l1, l2⟩ := Lp g1
     simp only [cond_true]
     rw [au (ayo hN hb hw (MH g3) g2 l1 l2), au (vK hN (aw0 hb hw g3 g1 g6))]
    | false =>
     simp only [cond_false]
     rw [au (vK hN (asn hb _))]
theorem Na {N : Nat} (hN : lim < N) {b : af} {w : aK} (hb : smB b) (hw : smW w) : ae8 N b w = some (jL b w) := by
 obtain ⟨f1, f2, f3, f4, f5⟩ := Dc b w
 have hlim := aY
 unfold ae8 aqt jL
 rw [au (aqU hN hb hw)]
 cases h1 : dX b w == 1 with
 | true => rfl
 | false =>
  have n1 : dX b w ≠ 1 := beq_eq_false_iff_ne.1 h1
  simp only [cond_false]
  rw [au (EK hN hb)]
  by_cases h5 : dX b w ≥ 5
  ·rw [decide_eq_true h5]
   have e0 : (dX b w == 0) = false := beq_eq_false_iff_ne.2 (by omega)
   have e1 : (dX b w != 0) = true := by simp [bne, e0]
   have e2 : inB (dX b w) 2 4 = false := by unfold inB; rw [decide_eq_false (show ¬ dX b w ≤ 4 by omega)]; simp
   have e3 : decide (bM b w.1 ≥ 0) = false := decide_eq_false (by have := f2 h5; omega)
   simp only [e0, e1, e2, e3, cond_true, cond_false]
  ·rw [decide_eq_false h5]
   cases h0 : dX b w == 0 with
   | false =>
    have n0 : dX b w ≠ 0 := beq_eq_false_iff_ne.1 h0
    have e1 : (dX b w != 0) = true := by simp [bne, h0]
    have e2 : inB (dX b w) 2 4 = true := by unfold inB; rw [decide_eq_true (show dX b w ≤ 4 by omega), decide_eq_true (show dX b w ≥ 2 by omega)]; rfl
    simp only [e1, e2, cond_true, cond_false]
   | true =>
    have e0 : dX b w = 0 := beq_iff_eq.1 h0
    have e1 : (dX b w != 0) = false := by simp [bne, h0]
    have e2 : inB (dX b w) 2 4 = false := by unfold inB; rw [decide_eq_false (show ¬ dX b w ≥ 2 by omega)]; rfl
    simp only [e1, e2, cond_true, cond_false]
    rw [au (He hN hb _)]
    by_cases hp : bM b w.1 ≥ 0
    ·rw [decide_eq_true hp]; rfl
    ·rw [decide_eq_false hp]
     obtain ⟨g1, g2⟩ := f4 e0
     have g3 := f3 (by omega)
     have g6 := f5 e0 (by omega)
     obtain ⟨l1, l2⟩ := Lp g1
     simp only [cond_false]
     rw [au (GX hw)]
     have hg : decide ((List.length b.2.2.2.1 + [(w, false)].length) * 120 ≤ lim) = true := decide_eq_true (by simp only [List.length_cons, List.length_nil]; omega)
     rw [hg, cond_true, ar7 hN hb hw (MH g3) g2 l1 l2, e0]
end Go.MC
namespace Go.MC
open Go.MC.F
theorem wrA (a b : Int) : IntKind.i64.wrap (a + IntKind.i64.wrap b) = IntKind.i64.wrap (a + b) := by
 simp only [IntKind.wrap_i64]; omega
theorem wrB (a b : Int) : IntKind.i64.wrap (IntKind.i64.wrap a + b) = IntKind.i64.wrap (a + b) := by
 simp only [IntKind.wrap_i64]; omega
theorem wrC (a b : Int) : IntKind.i64.wrap (IntKind.i64.wrap a - b) = IntKind.i64.wrap (a - b) := by
 simp only [IntKind.wrap_i64]; omega
theorem wrD (a b : Int) : IntKind.i64.wrap (a - IntKind.i64.wrap b) = IntKind.i64.wrap (a - b) := by
 simp only [IntKind.wrap_i64]; omega
def lV (w : aK) (moved : Int) (done : Bool) (u : Use) (s : bi) : bi :=
 (s.1, s.2.1, (bif u.2.1 == 1 then IntKind.i64.wrap (s.2.2.1 + u.2.2 - moved) else bif u.2.1 == 2 then IntKind.i64.wrap (s.2.2.1 + moved) else s.2.2.1),
  (bif u.2.1 == 1 then IntKind.i64.wrap (s.2.2.2.1 - moved) else bif u.2.1 == 2 then IntKind.i64.wrap (s.2.2.2.1 - u.2.2 + moved) else s.2.2.2.1), (bif w.2.1 == 2 then (bif done then [] else s.2.2.2.2) else s.2.2.2.2))
def FN (w : aK) (moved : Int) (done : Bool) (sp : List bi) (u : Use) : List bi := sp.set (jS u.1 sp).toNat (lV w moved done u (sp.getD (jS u.1 sp).toNat aJ))
theorem aqN {N : Nat} (s : bi) (w : aK) (u : Use) (moved : Int) (done : Bool) : aql N s w u moved done = some (lV w moved done u s) := by
 unfold aql lV
 by_cases r1 : u.2.1 = 1
 ·have q1 : (u.2.1 == 1) = true := by rw [r1]; rfl
  have q2 : (u.2.1 == 2) = false := by rw [r1]; rfl
  simp only [q1, q2, cond_true, cond_false, wrC]
  cases w.2.1 == 2 <;> cases done <;> rfl
 ·have q1 : (u.2.1 == 1) = false := beq_eq_false_iff_ne.2 r1
  simp only [q1, cond_false]
  cases q2 : u.2.1 == 2
  ·cases w.2.1 == 2 <;> cases done <;> rfl
  ·simp only [cond_true, wrB]
   cases w.2.1 == 2 <;> cases done <;> rfl
def yP (moved : Int) (u : Use) : Bool := !((u.2.1 != 3) && decide (moved > u.2.2))
def nS (w : aK) (moved : Int) : Bool := !decide (moved < 0) && w.2.2.2.1.all (yP moved)
theorem acd {α : Type} (p : α → Bool) (l : List α) : iV (fun _ x => p x) 0 l = l.all p := by
 rw [Bool.eq_iff_iff, gu, List.all_eq_true]
 constructor
 ·intro h x hx
  obtain ⟨i, hi⟩ := List.getElem?_of_mem hx
  exact h i x hi
 ·intro h j x hx
  exact h x (List.mem_of_getElem? hx)
theorem atT {N : Nat} (hN : lim < N) {w : aK} (hw : smW w) (moved : Int) : akZ N w moved = some (nS w moved) := by
 have hlim := aY
 have h1 := hw.2.1.1
 unfold akZ aqk nS
 cases decide (moved < 0) with
 | true => rfl
 | false =>
  refine (dQ w.2.2.2.1 _ (fun _ u => yP moved u) (some false) (some true) (fun g i hi => ?_) (fun g => ?_) N (by omega)).trans ?_
  ·unfold PI yP
   simp only [dlt hi, dge, gAt hi, cond_true, wrS (i := i) (by omega)]
   cases w.2.2.2.1[i].2.1 != 3 <;> cases decide (moved > w.2.2.2.1[i].2.2) <;> rfl
  ·unfold PI
   rw [d_]; rfl
  ·rw [acd]
   cases w.2.2.2.1.all (yP moved) <;> rfl
structure OvI (b : af) (sp : List bi) : Prop where
 names : sp.map (·.1) = b.2.1.map (·.1)
 good : ∀ s ∈ sp, smS s
theorem OvI.len {b : af} {sp : List bi} (h : OvI b sp) : sp.length = b.2.1.length := by
 have := congrArg List.length h.names
 simpa using this
theorem OvI.step {b : af} {sp : List bi} (h : OvI b sp) (w : aK) (moved : Int) (done : Bool) (u : Use) : OvI b (FN w moved done sp u) := by
 refine ⟨?_, fun s hs => ?_⟩
 ·rw [← h.names]
  refine wM _ fun hk => ?_
  unfold lV
  simp only [List.getD_eq_getElem?_getD, List.getElem?_eq_getElem hk, Option.getD_some]
 ·by_cases hk : (jS u.1 sp).toNat < sp.length
  ·rcases List.mem_or_eq_of_mem_set hs with hs | hs
   ·exact h.good s hs
   ·subst hs
    have hg := h.good _ (j_ hk aJ)
    refine ⟨hg.1, ?_⟩
    unfold lV
    simp only
    cases w.2.1 == 2 <;> cases done
    ·exact hg.2
    ·exact hg.2
    ·exact hg.2
    ·exact ⟨by simp, fun x hx => by simp at hx⟩
  ·unfold FN at hs
   rw [List.set_eq_of_length_le (by omega)] at hs
   exact h.good s hs
theorem OvI.at {b : af} {sp : List bi} (h : OvI b sp) {w : aK} (hk : fV b w = true) {j : Nat} (hj : j < w.2.2.2.1.length) : atB b w.2.2.2.1[j].1 = jS w.2.2.2.1[j].1 sp ∧ 0 ≤ jS w.2.2.2.1[j].1 sp ∧ jS w.2.2.2.1[j].1 sp < (sp.length : Int) := by
 have h1 := jr hk hj
 have e : atB b w.2.2.2.1[j].1 = jS w.2.2.2.1[j].1 sp := DW h.names.symm _
 rw [← e, h.len]
 exact ⟨rfl, h1⟩
theorem acb {b : af} {w : aK} {moved : Int} {done : Bool} : ∀ (us : List Use) (sp : List bi), OvI b sp → OvI b (us.foldl (FN w moved done) sp)
 | [], sp, h => h
 | u :: us, sp, h => acb us _ (h.step w moved done u)
def cu (b : af) (n : Int) : dm := b.2.2.2.1.getD (bM b n).toNat bU
def Nb (b : af) (n : Int) (moved : Int) (done : Bool) : af :=
 (b.1, (cu b n).1.2.2.2.1.foldl (FN (cu b n).1 moved done) b.2.1, b.2.2.1, b.2.2.2.1.eraseIdx (bM b n).toNat, b.2.2.2.2)
def mr (b : af) (n : Int) (moved : Int) (done : Bool) : af × Int :=
 bif bf b then (bif decide (bM b n < 0) then (b, 3) else bif !nS (cu b n).1 moved then (b, 2) else bif !(cu b n).2 then (b, 12) else (Nb b n moved done, 0)) else (([], [], [], [], 0), 1)
theorem C_ {b : af} (h : bf b = true) {p : dm} (hp : p ∈ b.2.2.2.1) : eU p.1 = true ∧ fV b p.1 = true := by
 simp only [bf, nV, Bool.and_eq_true] at h
 obtain ⟨i, hi⟩ := List.getElem?_of_mem hp
 have := gu.1 h.2.2.2.2.2 i p hi
 simp only [og, qy, Bool.and_eq_true] at this
 exact ⟨this.1.2.1, this.1.2.2.1⟩
theorem uS {b : af} {n : Int} (h : 0 ≤ bM b n) : cu b n ∈ b.2.2.2.1 := by
 have := lL h
 exact j_ (show (bM b n).toNat < b.2.2.2.1.length by omega) _
theorem asE {b : af} (hb : smB b) (n moved : Int) (done : Bool) : smB (Nb b n moved done) := by
 have hi := acb (w := (cu b n).1) (moved := moved) (done := done) (cu b n).1.2.2.2.1 b.2.1 (⟨rfl, hb.2.1.2⟩ : OvI b b.2.1)
 refine ⟨hb.1, ⟨?_, hi.good⟩, hb.2.2.1, ?_, fun p hp => hb.2.2.2.2 p (List.mem_of_mem_eraseIdx hp)⟩
 ·have := hi.len
  have h2 := hb.2.1.1
  exact Nat.le_trans (Nat.le_of_eq this) h2
 ·exact Nat.le_trans (List.length_eraseIdx_le _ _) hb.2.2.2.1
theorem Sl {N : Nat} (hN : lim < N) {b : af} (hb : smB b) (n moved : Int) (done : Bool) : aez N b n moved done = some (mr b n moved done) := by
 have hlim := aY
 have hlp := hb.2.2.2.1
 have hls := hb.2.1.1
 unfold aez al4 mr
 rw [au (nJ hN hb)]
 cases hbk : bf b with
 | false => rfl
 | true =>
  simp only [Bool.not_true, cond_false, cond_true]
  rw [au (vK hN hb), au (Q_ hN hb n)]
  by_cases h : bM b n < 0
  ·simp only [decide_eq_true h]; rfl
  ·have h0 : 0 ≤ bM b n := by omega
   have h1 : decide (0 ≤ bM b n) = true := decide_eq_true h0
   have hlt := lL h0
   have h2 : decide (bM b n < (b.2.2.2.1.length : Int)) = true := decide_eq_true hlt
   have hx : cu b n ∈ b.2.2.2.1 := uS h0
   have hw : smW (cu b n).1 := hb.2.2.2.2 _ hx
   have hk := (C_ hbk hx).2
   have hu := hw.2.1.1
   simp only [decide_eq_false h, h1, h2, cond_false, cond_true]
   rw [show b.2.2.2.1.getD (bM b n).toNat bU = cu b n from rfl, au (atT hN hw moved)]
   cases nS (cu b n).1 moved with
   | false => rfl
   | true =>
    simp only [Bool.not_true, cond_false]
    cases (cu b n).2 with
    | false => rfl
    | true =>
     simp only [Bool.not_true, cond_false]
     have := iT (cu b n).1.2.2.2.1 (fun (g : Int → List bi → Option (af × Int)) i (d : List bi) => g (i : Int) d) (fun _ _ => none)
      (fun next => Hg N b moved done b (bM b n) 0 (cu b n).1.1 (cu b n).1.2.1 (cu b n).1.2.2.1 (cu b n).1.2.2.2.1 (cu b n).1.2.2.2.2.1 (cu b n).1.2.2.2.2.2 next)
      (fun _ d u => .inl (FN (cu b n).1 moved done d u)) (fun d => ob (F.F7 N (b.1, d, b.2.2.1, b.2.2.2.1.eraseIdx (bM b n).toNat, b.2.2.2.2)) ([], [], [], [], Int.ofNat 0) fun r => some (r, 0)) (fun _ d => OvI b d)
      (fun g i d h hi => ⟨by
       obtain ⟨e0, h1, h2⟩ := hi.at hk h
       unfold Hg
       simp only [dlt h, dge, gAt h, cond_true]
       rw [au (Cm hN hls _), e0]
       have hp : FN (cu b n).1 moved done d (cu b n).1.2.2.2.1[i] = d.set (jS (cu b n).1.2.2.2.1[i].1 d).toNat (lV (cu b n).1 moved done (cu b n).1.2.2.2.1[i] (d.getD (jS (cu b n).1.2.2.2.1[i].1 d).toNat aJ)) := rfl
       simp only [decide_eq_true h1, decide_eq_true h2, cond_true]
       rw [au (aqN _ ((cu b n).1.1, (cu b n).1.2.1, (cu b n).1.2.2.1, (cu b n).1.2.2.2.1, (cu b n).1.2.2.2.2.1, (cu b n).1.2.2.2.2.2) _ _ _), wrS (i := i) (by omega), hp]
       rfl, fun st' hs => by
       cases hs
       exact hi.step _ _ _ _⟩) (fun g d hd => by
       unfold Hg
       have ew : IntKind.i64.wrap (bM b n + 1) = bM b n + 1 := wr (by omega) (by omega)
       have et : (bM b n + 1).toNat = (bM b n).toNat + 1 := by omega
       simp only [d_, cond_false, h1, ew, decide_eq_true (show bM b n ≤ (b.2.2.2.1.length : Int) by omega), decide_eq_true (show (0 : Int) ≤ bM b n + 1 by omega), decide_eq_true (show bM b n + 1 ≤ (b.2.2.2.1.length : Int) by omega), decide_eq_true (show (b.2.2.2.1.length : Int) ≤ (b.2.2.2.1.length : Int) by omega), cond_true]
       rw [decide_eq_true (by simp; omega), decide_eq_true (by simp; omega), cond_true, cond_true]
       have ee : [] ++ List.drop (Int.toNat 0) (List.take (bM b n).toNat b.2.2.2.1) ++ List.drop (bM b n + 1).toNat (List.take (b.2.2.2.1.length : Int).toNat b.2.2.2.1) = b.2.2.2.1.eraseIdx (bM b n).toNat := by
        rw [et, List.eraseIdx_eq_take_drop_succ]
        simp
       rw [ee]) N (by omega) b.2.1 ⟨rfl, hb.2.1.2⟩
     refine this.trans ?_
     rw [uy]
     exact au (vK hN (asE hb n moved done))
theorem Z_ {N : Nat} (hN : lim < N) {b : af} (hb : smB b) (n moved : Int) (done : Bool) : ah3 N b n moved done = some (mr b n moved done) := by
 have hlim := aY
 have hlp := hb.2.2.2.1
 have hls := hb.2.1.1
 unfold ah3 ame mr
 rw [au (nR hN hb)]
 cases hbk : bf b with
 | false => rfl
 | true =>
  simp only [Bool.not_true, cond_false, cond_true]
  rw [au (EK hN hb), au (He hN hb n)]
  by_cases h : bM b n < 0
  ·simp only [decide_eq_true h]; rfl
  ·have h0 : 0 ≤ bM b n := by omega
   have h1 : decide (0 ≤ bM b n) = true := decide_eq_true h0
   have hlt := lL h0
   have h2 : decide (bM b n < (b.2.2.2.1.length : Int)) = true := decide_eq_true hlt
   have hx : cu b n ∈ b.2.2.2.1 := uS h0
   have hw : smW (cu b n).1 := hb.2.2.2.2 _ hx
   have hk := (C_ hbk hx).2
   have hu := hw.2.1.1
   simp only [decide_eq_false h, h1, h2, cond_false, cond_true]
   rw [show b.2.2.2.1.getD (bM b n).toNat bU = cu b n from rfl]
   unfold nS
   cases decide (moved < 0) with
   | true => rfl
   | false =>
    simp only [cond_false, Bool.not_false, Bool.true_and]
    refine (dQ (cu b n).1.2.2.2.1 _ (fun _ u => yP moved u) (some (b, 2)) (bif !(cu b n).2 then some (b, 12) else some (Nb b n moved done, 0)) (fun g i hi => ?_) (fun g => ?_) N (by omega)).trans ?_
    ·unfold QB yP
     simp only [dlt hi, dge, gAt hi, cond_true, wrS (i := i) (by omega)]
     cases (cu b n).1.2.2.2.1[i].2.1 != 3 <;> cases decide (moved > (cu b n).1.2.2.2.1[i].2.2) <;> rfl
    ·unfold QB
     have ew : IntKind.i64.wrap (bM b n + 1) = bM b n + 1 := wr (by omega) (by omega)
     simp only [d_, cond_false, h1, h2, ew, cond_true, decide_true, show b.2.2.2.1.getD (bM b n).toNat bU = cu b n from rfl]
     cases (cu b n).2 with
     | false => rfl
     | true =>
      simp only [Bool.not_true, cond_false]
      have := iT (cu b n).1.2.2.2.1 (fun (g : Int → List bi → Option (af × Int)) i (d : List bi) => g (i : Int) d) (fun _ _ => none)
       (fun next => Ib N moved done b 0 (cu b n).1.1 (cu b n).1.2.1 (cu b n).1.2.2.1 (cu b n).1.2.2.2.1 (cu b n).1.2.2.2.2.1 (cu b n).1.2.2.2.2.2 ((cu b n).1.2.2.2.1.length : Int) [] [] [] [] (b.2.2.2.1.eraseIdx (bM b n).toNat) next)
       (fun _ d u => .inl (FN (cu b n).1 moved done d u)) (fun d => some ((b.1, d, b.2.2.1, b.2.2.2.1.eraseIdx (bM b n).toNat, b.2.2.2.2), 0)) (fun _ d => OvI b d)
       (fun g i d h hi => ⟨by
        obtain ⟨e0, h1, h2⟩ := hi.at hk h
        have hld : d.length ≤ 1048576 := by rw [hi.len]; exact hls
        unfold Ib
        simp only [dlt h, dge, gAt h, cond_true]
        rw [au (show IX N (b.1, d, b.2.2.1, b.2.2.2.1.eraseIdx (bM b n).toNat, b.2.2.2.2) (cu b n).1.2.2.2.1[i].1 = some (jS (cu b n).1.2.2.2.1[i].1 d) from Dq hN (b := (b.1, d, b.2.2.1, b.2.2.2.1.eraseIdx (bM b n).toNat, b.2.2.2.2)) hld _)]
        have hp : FN (cu b n).1 moved done d (cu b n).1.2.2.2.1[i] = d.set (jS (cu b n).1.2.2.2.1[i].1 d).toNat (lV (cu b n).1 moved done (cu b n).1.2.2.2.1[i] (d.getD (jS (cu b n).1.2.2.2.1[i].1 d).toNat aJ)) := rfl
        obtain ⟨k, ek⟩ : ∃ k : Nat, jS (cu b n).1.2.2.2.1[i].1 d = (k : Int) := ⟨_, (Int.toNat_of_nonneg h1).symm⟩
        rw [ek] at h1 h2 hp ⊢
        rw [Int.toNat_natCast] at hp
        have hkd : k < d.length := by omega
        simp only [dlt hkd, dge, cond_true, List.length_set, xX, sAt, wrA, wrD, wrS (i := i) (by omega), gS' hkd, sS']
        rw [hp]
        unfold lV
        have z1 : ∀ a c : Int, a + (c - moved) = a + c - moved := fun a c => by omega
        have z2 : ∀ a c : Int, a - (c - moved) = a - c + moved := fun a c => by omega
        simp only [z1, z2]
        have hself : d = d.set k (d.getD k aJ) := by
         rw [List.getD_eq_getElem?_getD, List.getElem?_eq_getElem hkd, Option.getD_some, List.set_getElem_self]
        by_cases r1 : (cu b n).1.2.2.2.1[i].2.1 = 1
        ·have q1 : ((cu b n).1.2.2.2.1[i].2.1 == 1) = true := by rw [r1]; rfl
         have q2 : ((cu b n).1.2.2.2.1[i].2.1 == 2) = false := by rw [r1]; rfl
         simp only [q1, q2, cond_true, cond_false]
         cases (cu b n).1.2.1 == 2 <;> cases done <;> rfl
        ·have q1 : ((cu b n).1.2.2.2.1[i].2.1 == 1) = false := beq_eq_false_iff_ne.2 r1
         simp only [q1, cond_false]
         cases q2 : (cu b n).1.2.2.2.1[i].2.1 == 2
         ·simp only [cond_false]
          cases (cu b n).1.2.1 == 2 <;> cases done
          ·exact congrArg (g _) hself
          ·exact congrArg (g _) hself
          ·exact congrArg (g _) hself
          ·rfl
         ·simp only [cond_true]
          cases (cu b n).1.2.1 == 2 <;> cases done <;> rfl, fun st' hs => by
        cases hs
        exact hi.step _ _ _ _⟩) (fun g d hd => by
        unfold Ib
        rw [d_]; rfl) N (by omega) b.2.1 ⟨rfl, hb.2.1.2⟩
      refine this.trans ?_
      rw [uy]
      rfl
    ·rw [acd]
     cases (cu b n).1.2.2.2.1.all (yP moved) <;> cases (cu b n).2 <;> rfl
end Go.MC
namespace Go.MC
open Go.MC.F
def pR (b : af) (n : Int) : List dm := b.2.2.2.1.set (Int.toNat (bM b n)) ((b.2.2.2.1.getD (Int.toNat (bM b n)) bU).1, true)
def oN (b : af) (n : Int) : af × Int :=
 bif bf b then (bif decide (bM b n < 0) then (b, 3) else ((b.1, b.2.1, b.2.2.1, pR b n, b.2.2.2.2), 0)) else (([], [], [], [], 0), 1)
theorem acB {N : Nat} (hN : lim < N) {b : af} (hb : smB b) (n : Int) : akp N b n = some (oN b n) := by
 unfold akp oN
 rw [au (nJ hN hb)]
 cases bf b with
 | false => rfl
 | true =>
  simp only [Bool.not_true, cond_false, cond_true]
  rw [au (vK hN hb), au (Q_ hN hb n)]
  by_cases h : bM b n < 0
  ·simp only [decide_eq_true h]; rfl
  ·have h1 : decide (0 ≤ bM b n) = true := decide_eq_true (by omega)
   have h2 : decide (bM b n < (b.2.2.2.1.length : Int)) = true := decide_eq_true (lL (by omega))
   simp only [decide_eq_false h, h1, h2, cond_false, cond_true]
   rfl
theorem amO {N : Nat} (hN : lim < N) {b : af} (hb : smB b) (n : Int) : aq9 N b n = some (oN b n) := by
 unfold aq9 oN
 rw [au (nR hN hb)]
 cases bf b with
 | false => rfl
 | true =>
  simp only [Bool.not_true, cond_false, cond_true]
  rw [au (EK hN hb), au (He hN hb n)]
  by_cases h : bM b n < 0
  ·simp only [decide_eq_true h]; rfl
  ·have h1 : decide (0 ≤ bM b n) = true := decide_eq_true (by omega)
   have h2 : decide (bM b n < (b.2.2.2.1.length : Int)) = true := decide_eq_true (lL (by omega))
   simp only [decide_eq_false h, h1, h2, cond_false, cond_true]
   rfl
end Go.MC
namespace Go.MC
open Go.MC.F
def yZ (b : af) (w : aK) : Prop := w.1 ≤ b.2.2.2.2 ∧ eU w = true ∧ fV b w = true ∧ ∀ u ∈ w.2.2.2.1, rZ (dh b u.1) w u = true
def BH (v w : aK) : Prop := v.1 < w.1 ∧ iO w v = false ∧ iZ w v = false
structure OkB (b : af) : Prop where
 foes : oZ b = true
 valves : fM b.2.2.1 12 = true
 seen : 0 ≤ b.2.2.2.2 ∧ b.2.2.2.2 ≤ 1000000
 sl : b.2.1.length ≤ 8
 so : ∀ s ∈ b.2.1, jT b s = true
 sa : Asc (b.2.1.map (·.1))
 pl : b.2.2.2.1.length ≤ 6
 po : ∀ w ∈ b.2.2.2.1.map (·.1), yZ b w
 pp : (b.2.2.2.1.map (·.1)).Pairwise BH
theorem TI {b : af} {p : dm} : qy b p = true ↔ yZ b p.1 := by
 unfold qy yZ
 simp only [Bool.and_eq_true, Bool.not_eq_true', decide_eq_false_iff_not, List.all_eq_true]
 constructor
 ·rintro ⟨h1, h2, h3, h4⟩; exact ⟨by omega, h2, h3, h4⟩
 ·rintro ⟨h1, h2, h3, h4⟩; exact ⟨by omega, h2, h3, h4⟩
theorem adV {α : Type} {R : α → α → Prop} (ht : ∀ a b c, R a b → R b c → R a c) {l : List α} (h : ∀ j (hj : j + 1 < l.length), R (l[j]'(by omega)) l[j + 1]) : l.Pairwise R := by
 have h4 : ∀ (k i : Nat) (hj : i + k + 1 < l.length), R (l[i]'(by omega)) l[i + k + 1] := by
  intro k
  induction k with
  | zero => intro i hj; exact h i (by omega)
  | succ k ih =>
   intro i hj
   exact ht _ _ _ (ih i (by omega)) (h (i + (k + 1)) (by omega))
 refine List.pairwise_iff_getElem.2 fun i j hi hj hij => ?_
 have := h4 (j - i - 1) i (by omega)
 simpa only [show i + (j - i - 1) + 1 = j by omega] using this
theorem h_ {α : Type} {l : List α} {i : Nat} (h : i < l.length) (d : α) : l.getD i d = l[i] := by
 rw [List.getD_eq_getElem?_getD, List.getElem?_eq_getElem h]; rfl
theorem fP {b : af} : bf b = true ↔ OkB b := by
 constructor
 ·intro h
  simp only [bf, vk, nV, Bool.and_eq_true, Bool.not_eq_true', decide_eq_false_iff_not] at h
  obtain ⟨h1, h2, h3, ⟨h4, h5⟩, h6, h7⟩ := h
  have hs : ∀ i (hi : i < b.2.1.length), l_ b i b.2.1[i] = true := fun i hi => by
   have := gu.1 h5 i b.2.1[i] (by simp [hi])
   simpa using this
  have hp : ∀ i (hi : i < b.2.2.2.1.length), og b i b.2.2.2.1[i] = true := fun i hi => by
   have := gu.1 h7 i b.2.2.2.1[i] (by simp [hi])
   simpa using this
  refine ⟨h1, h2, ?_, by omega, fun s hm => ?_, ?_, by omega, fun w hw => ?_, ?_⟩
  ·simp only [inB, Bool.and_eq_true, decide_eq_true_eq] at h3
   omega
  ·obtain ⟨i, hi, e⟩ := List.mem_iff_getElem.1 hm
   have := hs i hi
   simp only [l_, Bool.and_eq_true] at this
   rw [← e]; exact this.1
  ·refine adV (R := fun a b : Txt => Op.bytesLess a b = true) (fun a b c h1 h2 => ku h1 h2) fun j hj => ?_
   rw [List.length_map] at hj
   have := hs (j + 1) hj
   simp only [l_, Bool.and_eq_true, Bool.or_eq_true, beq_iff_eq] at this
   rcases this.2 with h0 | h0
   ·omega
   ·rw [show j + 1 - 1 = j by omega, h_ (show j < b.2.1.length by omega)] at h0
    simpa using h0
  ·obtain ⟨p, hm, rfl⟩ := List.mem_map.1 hw
   obtain ⟨i, hi, e⟩ := List.mem_iff_getElem.1 hm
   have := hp i hi
   simp only [og, Bool.and_eq_true] at this
   rw [← e]; exact TI.1 this.1
  ·have hn : (b.2.2.2.1.map (·.1)).Pairwise fun v w => v.1 < w.1 := by
    refine adV (R := fun v w : aK => v.1 < w.1) (fun a b c h1 h2 => Int.lt_trans h1 h2) fun j hj => ?_
    rw [List.length_map] at hj
    have := hp (j + 1) hj
    simp only [og, Bool.and_eq_true, Bool.or_eq_true, beq_iff_eq, Bool.not_eq_true', decide_eq_false_iff_not] at this
    rcases this.2.1 with h0 | h0
    ·omega
    ·rw [show j + 1 - 1 = j by omega, h_ (show j < b.2.2.2.1.length by omega)] at h0
     simp only [List.getElem_map]
     omega
   refine List.pairwise_iff_getElem.2 fun i j hi hj hij => ?_
   have hn' := List.pairwise_iff_getElem.1 hn i j hi hj hij
   refine ⟨hn', ?_⟩
   simp only [List.length_map] at hi hj
   have := hp j hj
   simp only [og, Bool.and_eq_true] at this
   have h8 := List.all_eq_true.1 this.2.2 b.2.2.2.1[i] (List.mem_iff_getElem.2 ⟨i, by simp; omega, by simp⟩)
   simp only [Bool.and_eq_true, Bool.not_eq_true'] at h8
   simpa using h8
 ·intro h
  obtain ⟨h1, h2, h3, h4, h5, h6, h7, h8, h9⟩ := h
  simp only [bf, vk, nV, Bool.and_eq_true, Bool.not_eq_true', decide_eq_false_iff_not]
  refine ⟨h1, h2, ?_, ⟨by omega, ?_⟩, by omega, ?_⟩
  ·simp only [inB, Bool.and_eq_true, decide_eq_true_eq]; omega
  ·refine gu.2 fun j s hj => ?_
   obtain ⟨hj', e⟩ := List.getElem?_eq_some_iff.1 hj
   simp only [l_, Nat.zero_add, Bool.and_eq_true, Bool.or_eq_true, beq_iff_eq]
   refine ⟨h5 s (List.mem_of_getElem? hj), ?_⟩
   cases j with
   | zero => exact .inl rfl
   | succ j =>
    refine .inr ?_
    rw [show j + 1 - 1 = j by omega, h_ (show j < b.2.1.length by omega), ← e]
    have := List.pairwise_iff_getElem.1 h6 j (j + 1) (by simp; omega) (by simp; omega) (by omega)
    simpa using this
  ·refine gu.2 fun j p hj => ?_
   obtain ⟨hj', e⟩ := List.getElem?_eq_some_iff.1 hj
   have hlt : ∀ i (hi : i < j), BH (b.2.2.2.1[i]'(by omega)).1 p.1 := fun i hi => by
    have := List.pairwise_iff_getElem.1 h9 i j (by simp; omega) (by simp; omega) hi
    simpa [e] using this
   simp only [og, Nat.zero_add, Bool.and_eq_true, Bool.or_eq_true, beq_iff_eq, Bool.not_eq_true', decide_eq_false_iff_not]
   refine ⟨TI.2 (h8 _ (List.mem_map.2 ⟨p, List.mem_of_getElem? hj, rfl⟩)), ?_, ?_⟩
   ·cases j with
    | zero => exact .inl rfl
    | succ j =>
     refine .inr ?_
     rw [show j + 1 - 1 = j by omega, h_ (show j < b.2.2.2.1.length by omega)]
     have := (hlt j (by omega)).1
     omega
   ·refine List.all_eq_true.2 fun q hq => ?_
    obtain ⟨i, hi, e2⟩ := List.mem_iff_getElem.1 hq
    simp only [List.length_take] at hi
    have := hlt i (by omega)
    rw [← e2]
    simp only [List.getElem_take]
    rw [this.2.1, this.2.2]; rfl
end Go.MC
namespace Go.MC
open Go.MC.F
theorem I_ {α : Type} {p : α → Bool} : ∀ {l : List α} {i : Nat}, 0 ≤ jo p i l → ∃ j, ∃ hj : j < l.length, jo p i l = ((i + j : Nat) : Int) ∧ p l[j] = true
 | [], i, h => by simp [jo] at h
 | x :: xs, i, h => by
  simp only [jo] at h ⊢
  cases hx : p x with
  | true => exact ⟨0, by simp, by simp, by simpa using hx⟩
  | false =>
   rw [hx] at h
   obtain ⟨j, hj, e1, e2⟩ := I_ (l := xs) (i := i + 1) h
   exact ⟨j + 1, by simpa using hj, by rw [cond_false, e1]; omega, by simpa using e2⟩
theorem acE {α : Type} {p : α → Bool} {l : List α} {i : Nat} {x : α} (hx : x ∈ l) (hp : p x = true) : 0 ≤ jo p i l := by
 have := ja p l i
 rw [List.any_eq_true.2 ⟨x, hx, hp⟩] at this
 exact of_decide_eq_true this
theorem ahi {α : Type} {f : α → Txt} {l : List α} (h : Asc (l.map f)) {i j : Nat} (hi : i < l.length) (hj : j < l.length) (e : f l[i] = f l[j]) : i = j := by
 have h2 := List.pairwise_iff_getElem.1 h
 rcases Nat.lt_trichotomy i j with c | c | c
 ·have := h2 i j (by simpa using hi) (by simpa using hj) c
  simp only [List.getElem_map] at this
  rw [e, iK] at this; cases this
 ·exact c
 ·have := h2 j i (by simpa using hj) (by simpa using hi) c
  simp only [List.getElem_map] at this
  rw [e, iK] at this; cases this
theorem ag7 {sp : List bi} {n : Txt} (h : n ∈ sp.map (·.1)) : ∃ k, ∃ hk : k < sp.length, jS n sp = (k : Int) ∧ sp[k].1 = n := by
 obtain ⟨s, hs, e⟩ := List.mem_map.1 h
 obtain ⟨j, hj, e1, e2⟩ := I_ (p := fun s : bi => s.1 == n) (l := sp) (i := 0) (acE hs (by simpa using e))
 exact ⟨j, hj, by unfold jS; rw [e1]; omega, by simpa using e2⟩
theorem KO {b : af} (ha : Asc (b.2.1.map (·.1))) {s : bi} (hs : s ∈ b.2.1) : dh b s.1 = s := by
 obtain ⟨k, hk, e1, e2⟩ := ag7 (List.mem_map.2 ⟨s, hs, rfl⟩)
 obtain ⟨j, hj, e⟩ := List.mem_iff_getElem.1 hs
 have : k = j := ahi ha hk hj (by rw [e2, e])
 subst this
 unfold dh
 rw [show atB b s.1 = (k : Int) from e1, Int.toNat_natCast, h_ hk, e]
theorem ve {b : af} {n : Txt} (h : 0 ≤ atB b n) : dh b n ∈ b.2.1 ∧ (dh b n).1 = n := by
 obtain ⟨j, hj, e1, e2⟩ := I_ (p := fun s : bi => s.1 == n) (l := b.2.1) (i := 0) h
 have e : dh b n = b.2.1[j] := by
  unfold dh
  rw [show atB b n = ((0 + j : Nat) : Int) from e1, Int.toNat_natCast, Nat.zero_add, h_ hj]
 rw [e]
 exact ⟨List.getElem_mem hj, by simpa using e2⟩
theorem al7 {b : af} {n : Txt} : 0 ≤ atB b n ↔ n ∈ b.2.1.map (·.1) := by
 constructor
 ·intro h
  exact List.mem_map.2 ⟨_, (ve h).1, (ve h).2⟩
 ·intro h
  obtain ⟨s, hs, e⟩ := List.mem_map.1 h
  exact acE hs (by simpa using e)
def upd (f : Use → bi → bi) (sp : List bi) (u : Use) : List bi := sp.set (jS u.1 sp).toNat (f u (sp.getD (jS u.1 sp).toNat aJ))
def KQ {β : Type} (f : Use → Txt × β → Txt × β) (us : List Use) (s : Txt × β) : Txt × β := us.foldl (fun s u => bif s.1 == u.1 then f u s else s) s
theorem awd {f : Use → bi → bi} {sp : List bi} (ha : Asc (sp.map (·.1))) {u : Use} (hu : u.1 ∈ sp.map (·.1)) : upd f sp u = sp.map fun s => bif s.1 == u.1 then f u s else s := by
 obtain ⟨k, hk, e1, e2⟩ := ag7 hu
 unfold upd
 rw [e1, Int.toNat_natCast, h_ hk]
 refine List.ext_getElem (by simp) fun i h1 h2 => ?_
 simp only [List.length_set] at h1
 rw [List.getElem_set, List.getElem_map]
 by_cases hki : k = i
 ·subst hki
  rw [if_pos rfl, e2]; simp
 ·rw [if_neg hki]
  have : (sp[i].1 == u.1) = false := beq_eq_false_iff_ne.2 fun e => hki (ahi ha hk h1 (by rw [e2, e]))
  rw [this]; rfl
theorem Sj {f : Use → bi → bi} (hf : ∀ u s, (f u s).1 = s.1) : ∀ (us : List Use) {sp : List bi}, Asc (sp.map (·.1)) → (∀ u ∈ us, u.1 ∈ sp.map (·.1)) → us.foldl (upd f) sp = sp.map (KQ f us)
 | [], sp, _, _ => by
  rw [show KQ f [] = id from rfl]; simp
 | u :: us, sp, ha, hu => by
  have e := awd (f := f) ha (hu u (by simp))
  have hn : (upd f sp u).map (·.1) = sp.map (·.1) := by
   rw [e, List.map_map]
   refine List.map_congr_left fun s _ => ?_
   simp only [Function.comp]
   cases s.1 == u.1
   ·rfl
   ·exact hf u s
  rw [List.foldl_cons, Sj hf us (by rw [hn]; exact ha) (fun v hv => by rw [hn]; exact hu v (by simp [hv])), e, List.map_map]
  rfl
theorem pU {β : Type} {f : Use → Txt × β → Txt × β} (hf : ∀ u s, (f u s).1 = s.1) : ∀ (us : List Use) (s : Txt × β), (KQ f us s).1 = s.1
 | [], s => rfl
 | u :: us, s => by
  show (KQ f us (bif s.1 == u.1 then f u s else s)).1 = _
  rw [pU hf us]
  cases s.1 == u.1
  ·rfl
  ·exact hf u s
theorem Ah {β : Type} {f : Use → Txt × β → Txt × β} : ∀ {us : List Use} {s : Txt × β}, (∀ u ∈ us, u.1 ≠ s.1) → KQ f us s = s
 | [], s, _ => rfl
 | u :: us, s, h => by
  show KQ f us (bif s.1 == u.1 then f u s else s) = _
  have : (s.1 == u.1) = false := beq_eq_false_iff_ne.2 fun e => h u (by simp) e.symm
  rw [this]
  exact Ah fun v hv => h v (by simp [hv])
theorem PX {β : Type} {f : Use → Txt × β → Txt × β} (hf : ∀ u s, (f u s).1 = s.1) : ∀ {us : List Use} {s : Txt × β} {u : Use}, Asc (us.map (·.1)) → u ∈ us → u.1 = s.1 → KQ f us s = f u s
 | v :: us, s, u, ha, hu, e => by
  obtain ⟨h1, h2⟩ := List.pairwise_cons.1 ha
  show KQ f us (bif s.1 == v.1 then f v s else s) = _
  rcases List.mem_cons.1 hu with rfl | hu
  ·have : (s.1 == u.1) = true := by simp [e]
   rw [this, cond_true]
   refine Ah fun w hw e2 => ?_
   have := h1 w.1 (List.mem_map.2 ⟨w, hw, rfl⟩)
   rw [e2, hf, ← e, iK] at this
   cases this
  ·have : (s.1 == v.1) = false := beq_eq_false_iff_ne.2 fun e2 => by
    have := h1 u.1 (List.mem_map.2 ⟨u, hu, rfl⟩)
    rw [e, e2, iK] at this
    cases this
   rw [this, cond_false]
   exact PX hf h2 hu e
theorem QV {w : aK} (h : eU w = true) : Asc (w.2.2.2.1.map (·.1)) := by
 simp only [eU, sZ, Bool.and_eq_true] at h
 have h2 := gu.1 h.2.2.1.2
 refine adV (R := fun a b : Txt => Op.bytesLess a b = true) (fun a b c h1 h2 => ku h1 h2) fun j hj => ?_
 rw [List.length_map] at hj
 have := h2 (j + 1) w.2.2.2.1[j + 1] (by simp [hj])
 simp only [xy, Nat.zero_add, Bool.and_eq_true, Bool.or_eq_true, beq_iff_eq] at this
 rcases this.2.1 with h0 | h0
 ·omega
 ·rw [show j + 1 - 1 = j by omega, h_ (show j < w.2.2.2.1.length by omega)] at h0
  simpa using h0
theorem Ls {w : aK} (h : eU w = true) {u : Use} (hu : u ∈ w.2.2.2.1) : (u.2.1 = 3 ∧ u.2.2 = 0) ∨ ((u.2.1 = 1 ∨ u.2.1 = 2) ∧ w.2.1 = 1 ∧ 1 ≤ u.2.2 ∧ u.2.2 ≤ 1000) := by
 simp only [eU, sZ, Bool.and_eq_true] at h
 obtain ⟨i, hi⟩ := List.getElem?_of_mem hu
 have := gu.1 h.2.2.1.2 i u hi
 simp only [xy, Nat.zero_add, Bool.and_eq_true, inB, decide_eq_true_eq] at this
 obtain ⟨_, _, ⟨h1, h2⟩, h3⟩ := this
 by_cases h4 : u.2.1 = 3
 ·rw [h4] at h3
  exact .inl ⟨h4, by simpa using h3⟩
 ·rw [beq_eq_false_iff_ne.2 h4, cond_false] at h3
  simp only [Bool.and_eq_true, beq_iff_eq, decide_eq_true_eq] at h3
  exact .inr ⟨by omega, h3.1, h3.2.1, h3.2.2⟩
theorem ig {b : af} {s : bi} : jT b s = true ↔ nP s.1 = true ∧ (0 ≤ s.2.1 ∧ s.2.1 ≤ 1000) ∧ (0 ≤ s.2.2.1 ∧ s.2.2.1 ≤ s.2.2.2.1 ∧ s.2.2.2.1 ≤ s.2.1) ∧ fM s.2.2.2.2 8 = true ∧ ik b s.2.2.2.2 s.2.2.2.2 = false := by
 unfold jT inB
 simp only [Bool.and_eq_true, decide_eq_true_eq, Bool.not_eq_true', decide_eq_false_iff_not]
 constructor
 ·rintro ⟨h1, h2, h3, h4, h5, h6⟩; exact ⟨h1, by omega, by omega, h5, h6⟩
 ·rintro ⟨h1, h2, h3, h5, h6⟩; exact ⟨h1, by omega, by omega, by omega, h5, h6⟩
theorem AO {s : bi} {w : aK} {u : Use} : rZ s w u = true ↔ (w.2.1 = 2 → s.2.2.2.1 ≤ 0) ∧ (w.2.1 = 1 → u.2.1 ≠ 2 → ∀ x ∈ s.2.2.2.2, x ∈ w.2.2.1) ∧ (w.2.1 = 1 → u.2.1 ≠ 1 → ∀ x ∈ w.2.2.1, x ∈ s.2.2.2.2) ∧ IntKind.i64.wrap (s.2.2.1 + u.2.2) ≤ s.2.2.2.1 := by
 unfold rZ
 simp only [Bool.and_eq_true, Bool.not_eq_true', Bool.and_eq_false_iff, decide_eq_true_eq, decide_eq_false_iff_not, beq_eq_false_iff_ne, Bool.not_eq_false', beq_iff_eq, List.all_eq_true, List.contains_iff_mem]
 constructor
 ·rintro ⟨h1, h2, h3, h4⟩
  refine ⟨fun e => ?_, fun e n => ?_, fun e n => ?_, h4⟩
  ·rcases h1 with h | h
   ·exact absurd e h
   ·omega
  ·rcases h2 with h | h | h
   ·exact absurd e h
   ·exact absurd h n
   ·exact h
  ·rcases h3 with h | h | h
   ·exact absurd e h
   ·exact absurd h n
   ·exact h
 ·rintro ⟨h1, h2, h3, h4⟩
  refine ⟨?_, ?_, ?_, h4⟩
  ·by_cases e : w.2.1 = 2
   ·exact .inr (by have := h1 e; omega)
   ·exact .inl e
  ·by_cases e : w.2.1 = 1
   ·by_cases n : u.2.1 = 2
    ·exact .inr (.inl n)
    ·exact .inr (.inr (h2 e n))
   ·exact .inl e
  ·by_cases e : w.2.1 = 1
   ·by_cases n : u.2.1 = 1
    ·exact .inr (.inl n)
    ·exact .inr (.inr (h3 e n))
   ·exact .inl e
theorem NL {b c : af} (hn : c.2.1.map (·.1) = b.2.1.map (·.1)) (hv : c.2.2.1 = b.2.2.1) (w : aK) : fV c w = fV b w := by
 unfold fV
 rw [hv, show (fun u : Use => !decide (atB c u.1 < 0)) = fun u => !decide (atB b u.1 < 0) from funext fun u => by rw [show atB c u.1 = atB b u.1 from DW hn u.1]]
theorem Ip {b : af} {w : aK} (h : fV b w = true) {u : Use} (hu : u ∈ w.2.2.2.1) : 0 ≤ atB b u.1 := by
 simp only [fV, Bool.and_eq_true] at h
 have := List.all_eq_true.1 h.1 u hu
 simp only [Bool.not_eq_true', decide_eq_false_iff_not] at this
 omega
theorem QM {b c : af} {g : bi → bi} (hg : ∀ s, (g s).1 = s.1) (hc : c.2.1 = b.2.1.map g) (ha : Asc (b.2.1.map (·.1))) {n : Txt} (h : 0 ≤ atB b n) : dh c n = g (dh b n) := by
 obtain ⟨h1, h2⟩ := ve h
 have hn : c.2.1.map (·.1) = b.2.1.map (·.1) := by
  rw [hc, List.map_map]; exact List.map_congr_left fun s _ => hg s
 have hm : g (dh b n) ∈ c.2.1 := by rw [hc]; exact List.mem_map.2 ⟨_, h1, rfl⟩
 have := KO (by rw [hn]; exact ha) hm
 rwa [hg, h2] at this
theorem Ws {v w : aK} (h : iO w v = false) {u : Use} (hu : u ∈ v.2.2.2.1) : ∀ x ∈ w.2.2.2.1, x.1 ≠ u.1 := by
 intro x hx e
 unfold iO at h
 have := List.any_eq_false.1 h x hx
 exact this (List.any_eq_true.2 ⟨u, hu, by simpa using e⟩)
theorem NY {b c : af} {f : Use → bi → bi} (hf : ∀ u s, (f u s).1 = s.1) {us : List Use} (hc : c.2.1 = b.2.1.map (KQ f us)) (hv : c.2.2.1 = b.2.2.1) (ha : Asc (b.2.1.map (·.1))) {v : aK} (h : yZ b v) (hs : v.1 ≤ c.2.2.2.2)
 (hn : ∀ u ∈ v.2.2.2.1, ∀ x ∈ us, x.1 ≠ u.1) : yZ c v := by
 obtain ⟨h1, h2, h3, h4⟩ := h
 have hnm : c.2.1.map (·.1) = b.2.1.map (·.1) := by
  rw [hc, List.map_map]; exact List.map_congr_left fun s _ => pU hf us s
 refine ⟨hs, h2, by rw [NL hnm hv]; exact h3, fun u hu => ?_⟩
 have h0 := Ip h3 hu
 rw [QM (pU hf us) hc ha h0, Ah fun x hx => by rw [(ve h0).2]; exact hn u hu x hx]
 exact h4 u hu
theorem ahq {b : af} {n : Int} (h : bf b = true) : bf (oN b n).1 = true := by
 unfold oN
 rw [h, cond_true]
 by_cases hp : bM b n < 0
 ·rw [decide_eq_true hp, cond_true]; exact h
 ·rw [decide_eq_false hp, cond_false]
  have o := fP.1 h
  have e : (pR b n).map (·.1) = b.2.2.2.1.map (·.1) := by
   unfold pR
   exact wM _ fun hk => by rw [h_ hk]
  refine fP.2 ⟨o.foes, o.valves, o.seen, o.sl, o.so, o.sa, ?_, ?_, ?_⟩
  ·show (pR b n).length ≤ 6
   have := congrArg List.length e
   simp only [List.length_map] at this
   rw [this]; exact o.pl
  ·show ∀ w ∈ (pR b n).map (·.1), _
   rw [e]; exact o.po
  ·show ((pR b n).map (·.1)).Pairwise _
   rw [e]; exact o.pp
theorem XT {α β : Type} (f : α → β) : ∀ (l : List α) (k : Nat), (l.eraseIdx k).map f = (l.map f).eraseIdx k
 | [], _ => rfl
 | _ :: _, 0 => rfl
 | x :: l, k + 1 => by simp only [List.eraseIdx_cons_succ, List.map_cons, XT f l k]
theorem wo (w : aK) (moved : Int) (done : Bool) (u : Use) (s : bi) : (lV w moved done u s).1 = s.1 := rfl
theorem ai1 {b : af} {s : bi} {w : aK} {u : Use} {moved : Int} {done : Bool} (hs : jT b s = true) (hw : eU w = true) (hu : u ∈ w.2.2.2.1) (hi : rZ s w u = true) (hm : nS w moved = true) : jT b (lV w moved done u s) = true := by
 obtain ⟨a1, a2, a3, a4, a5⟩ := ig.1 hs
 obtain ⟨i1, i2, i3, i4⟩ := AO.1 hi
 unfold nS at hm
 simp only [Bool.and_eq_true, Bool.not_eq_true', decide_eq_false_iff_not] at hm
 have hmv := List.all_eq_true.1 hm.2 u hu
 unfold yP at hmv
 have may : fM (lV w moved done u s).2.2.2.2 8 = true ∧ ik b (lV w moved done u s).2.2.2.2 (lV w moved done u s).2.2.2.2 = false := by
  unfold lV
  simp only
  cases w.2.1 == 2
  ·exact ⟨a4, a5⟩
  ·cases done
   ·exact ⟨a4, a5⟩
   ·refine ⟨rfl, ?_⟩
    unfold ik
    simp
 refine ig.2 ⟨a1, a2, ?_, may⟩
 unfold lV
 simp only
 rcases Ls hw hu with ⟨e1, e2⟩ | ⟨e1, e2, e3, e4⟩
 ·rw [e1, show ((3 : Int) == 1) = false from rfl, show ((3 : Int) == 2) = false from rfl]
  exact a3
 ·have hmu : moved ≤ u.2.2 := by
   have : (u.2.1 != 3) = true := by rcases e1 with e | e <;> rw [e] <;> rfl
   rw [this] at hmv
   simp only [Bool.true_and, Bool.not_eq_true', decide_eq_false_iff_not] at hmv
   omega
  rw [wr (by omega) (by omega)] at i4
  rcases e1 with e | e
  ·rw [e, show ((1 : Int) == 1) = true from rfl]
   simp only [cond_true]
   rw [wr (by omega) (by omega), wr (by omega) (by omega)]
   omega
  ·rw [e, show ((2 : Int) == 1) = false from rfl, show ((2 : Int) == 2) = true from rfl]
   simp only [cond_true, cond_false]
   rw [wr (by omega) (by omega), wr (by omega) (by omega)]
   omega
theorem afy {b : af} (o : OkB b) {w : aK} (hw : yZ b w) (moved : Int) (done : Bool) : w.2.2.2.1.foldl (FN w moved done) b.2.1 = b.2.1.map (KQ (lV w moved done) w.2.2.2.1) :=
 Sj (f := lV w moved done) (wo w moved done) w.2.2.2.1 o.sa fun u hu => al7.1 (Ip hw.2.2.1 hu)
theorem ajZ {b : af} {n moved : Int} {done : Bool} (h : bf b = true) (hp : 0 ≤ bM b n) (hm : nS (cu b n).1 moved = true) : bf (Nb b n moved done) = true := by
 have o := fP.1 h
 have hx := uS hp
 have hw := o.po _ (List.mem_map.2 ⟨_, hx, rfl⟩)
 have hlt := lL hp
 have ex : (Nb b n moved done).2.1 = _ := afy o hw moved done
 have hk : (bM b n).toNat < b.2.2.2.1.length := by omega
 have hxk : cu b n = b.2.2.2.1[(bM b n).toNat] := h_ hk _
 have em : (b.2.2.2.1.eraseIdx (bM b n).toNat).map (·.1) = (b.2.2.2.1.map (·.1)).eraseIdx (bM b n).toNat := XT _ _ _
 refine fP.2 ⟨o.foes, o.valves, o.seen, ?_, ?_, ?_, ?_, ?_, ?_⟩
 ·rw [ex, List.length_map]; exact o.sl
 ·rw [ex]
  intro t ht
  obtain ⟨s, hs, rfl⟩ := List.mem_map.1 ht
  have hso := o.so s hs
  show jT b _ = true
  by_cases hc : ∃ u ∈ (cu b n).1.2.2.2.1, u.1 = s.1
  ·obtain ⟨u, hu, eu⟩ := hc
   rw [PX (wo _ _ _) (QV hw.2.1) hu eu]
   have := hw.2.2.2 u hu
   rw [eu, KO o.sa hs] at this
   exact ai1 hso hw.2.1 hu this hm
  ·rw [Ah fun u hu eu => hc ⟨u, hu, eu⟩]; exact hso
 ·rw [ex, List.map_map, show ((fun s : bi => s.1) ∘ KQ (lV (cu b n).1 moved done) (cu b n).1.2.2.2.1) = fun s => s.1 from funext fun s => pU (wo _ _ _) _ s]
  exact o.sa
 ·exact Nat.le_trans (List.length_eraseIdx_le _ _) o.pl
 ·show ∀ v ∈ (b.2.2.2.1.eraseIdx (bM b n).toNat).map (·.1), yZ (Nb b n moved done) v
  rw [em]
  intro v hv
  obtain ⟨i, hi, hne, ev⟩ := List.mem_eraseIdx_iff_getElem.1 hv
  have hvm : v ∈ b.2.2.2.1.map (·.1) := by rw [← ev]; exact List.getElem_mem hi
  have hvw := o.po v hvm
  have hsh : iO (cu b n).1 v = false := by
   have hpw := List.pairwise_iff_getElem.1 o.pp
   have exm : (b.2.2.2.1.map (·.1))[(bM b n).toNat]'(by simpa using hk) = (cu b n).1 := by rw [List.getElem_map, hxk]
   rcases Nat.lt_or_gt_of_ne hne with c | c
   ·have := (hpw i (bM b n).toNat hi (by simpa using hk) c).2.1
    rwa [exm, ev] at this
   ·have := (hpw (bM b n).toNat i (by simpa using hk) hi c).2.1
    rwa [exm, ev, wJ] at this
  exact NY (f := lV (cu b n).1 moved done) (wo _ _ _) ex rfl o.sa hvw hvw.1 fun u hu => Ws hsh hu
 ·show ((b.2.2.2.1.eraseIdx (bM b n).toNat).map (·.1)).Pairwise _
  rw [em]
  exact o.pp.sublist (List.eraseIdx_sublist _ _)
theorem X6 {b : af} {n moved : Int} {done : Bool} (h : bf b = true) : bf (mr b n moved done).1 = true := by
 unfold mr
 rw [h, cond_true]
 by_cases hp : bM b n < 0
 ·rw [decide_eq_true hp, cond_true]; exact h
 ·rw [decide_eq_false hp, cond_false]
  cases hm : nS (cu b n).1 moved with
  | false => exact h
  | true =>
   cases (cu b n).2 with
   | false => exact h
   | true => exact ajZ h (by omega) hm
end Go.MC
namespace Go.MC
open Go.MC.F
theorem pg {l : List Txt} {n : Int} : fM l n = true ↔ (l.length : Int) ≤ n ∧ (∀ x ∈ l, nP x = true) ∧ Asc l := by
 constructor
 ·intro h
  refine ⟨ahY h, fun x hx => ?_, afS h⟩
  unfold fM at h
  simp only [Bool.and_eq_true] at h
  obtain ⟨i, hi⟩ := List.getElem?_of_mem hx
  have := gu.1 h.2 i x hi
  simp only [Bool.and_eq_true] at this
  exact this.1
 ·rintro ⟨h1, h2, h3⟩
  unfold fM
  simp only [Bool.and_eq_true, Bool.not_eq_true', decide_eq_false_iff_not]
  refine ⟨by omega, gu.2 fun j x hj => ?_⟩
  obtain ⟨hj', e⟩ := List.getElem?_eq_some_iff.1 hj
  simp only [Bool.and_eq_true, Nat.zero_add, UO, Bool.or_eq_true, beq_iff_eq]
  refine ⟨h2 x (List.mem_of_getElem? hj), ?_⟩
  cases j with
  | zero => exact .inl rfl
  | succ j =>
   refine .inr ?_
   rw [show j + 1 - 1 = j by omega, h_ (show j < l.length by omega), ← e]
   exact List.pairwise_iff_getElem.1 h3 j (j + 1) (by omega) hj' (by omega)
theorem xY {b : af} {x y : List Txt} : ik b x y = false ↔ ∀ f ∈ b.1, ¬ (f.1 ∈ x ∧ f.2 ∈ y) ∧ ¬ (f.2 ∈ x ∧ f.1 ∈ y) := by
 unfold ik
 rw [List.any_eq_false]
 refine ⟨fun h f hf => ?_, fun h f hf => ?_⟩
 ·have := h f hf
  simp only [Bool.or_eq_true, Bool.and_eq_true, List.contains_iff_mem, not_or] at this
  exact this
 ·have := h f hf
  simp only [Bool.or_eq_true, Bool.and_eq_true, List.contains_iff_mem, not_or]
  exact this
theorem SX {f : Use → Int} {l : List Use} (h : first f l = 0) : ∀ u ∈ l, f u = 0 := by
 intro u hu
 unfold first at h
 cases hf : l.find? fun u => f u != 0 with
 | none =>
  have := List.find?_eq_none.1 hf u hu
  simpa using this
 | some v =>
  have h2 := List.find?_some hf
  rw [hf] at h
  simp only [Option.map_some, Option.getD_some] at h
  rw [h] at h2
  cases h2
structure avm (b : af) (w : aK) : Prop where
 ok : bf b = true
 wok : eU w = true
 kn : fV b w = true
 seen : b.2.2.2.2 < w.1
 six : b.2.2.2.1.length < 6
 sh : ∀ p ∈ b.2.2.2.1, iO p.1 w = false
 cr : ∀ p ∈ b.2.2.2.1, iZ p.1 w = false
 cl : ik b w.2.2.1 w.2.2.1 = false
 st : w.2.1 = 1 → ∀ u ∈ w.2.2.2.1, lT b w u = 0
 am : ∀ u ∈ w.2.2.2.1, mi b w u = 0
theorem aiF {b : af} {w : aK} (h : dX b w = 0) (hp : bM b w.1 < 0) : avm b w := by
 unfold dX at h
 cases h1 : bf b with
 | false => rw [h1] at h; exact absurd h (by decide : ¬ (1 : Int) = 0)
 | true =>
 cases h2 : eU w with
 | false => rw [h1, h2] at h; exact absurd h (by decide : ¬ (2 : Int) = 0)
 | true =>
 cases h3 : fV b w with
 | false => rw [h1, h2, h3] at h; exact absurd h (by decide : ¬ (2 : Int) = 0)
 | true =>
 rw [h1, h2, h3, decide_eq_false (show ¬ bM b w.1 ≥ 0 by omega)] at h
 simp only [Bool.not_true, cond_false] at h
 by_cases h4 : w.1 ≤ b.2.2.2.2
 ·rw [decide_eq_true h4] at h; exact absurd h (by decide : ¬ (4 : Int) = 0)
 rw [decide_eq_false h4, cond_false] at h
 by_cases h5 : (b.2.2.2.1.length : Int) ≥ 6
 ·rw [decide_eq_true h5] at h; exact absurd h (by decide : ¬ (5 : Int) = 0)
 rw [decide_eq_false h5, cond_false] at h
 cases h6 : b.2.2.2.1.any fun p => iO p.1 w with
 | true => rw [h6] at h; exact absurd h (by decide : ¬ (6 : Int) = 0)
 | false =>
 cases h7 : b.2.2.2.1.any fun p => iZ p.1 w with
 | true => rw [h6, h7] at h; exact absurd h (by decide : ¬ (7 : Int) = 0)
 | false =>
 rw [h6, h7] at h
 simp only [cond_false] at h
 have h8 : iJ b w = 0 ∧ kK b w = 0 := by
  cases hs : iJ b w != 0 with
  | true =>
   rw [hs, cond_true] at h
   rw [h] at hs; cases hs
  | false =>
   rw [hs, cond_false] at h
   exact ⟨by simpa using hs, h⟩
 obtain ⟨h8, h9⟩ := h8
 unfold iJ at h8
 refine ⟨h1, h2, h3, by omega, by omega, fun p hq => ?_, fun p hq => ?_, ?_, fun e => ?_, SX h9⟩
 ·have := List.any_eq_false.1 h6 p hq; simpa using this
 ·have := List.any_eq_false.1 h7 p hq; simpa using this
 ·cases hc : ik b w.2.2.1 w.2.2.1 with
  | false => rfl
  | true => rw [hc] at h8; exact absurd h8 (by decide : ¬ (8 : Int) = 0)
 ·cases hc : ik b w.2.2.1 w.2.2.1 with
  | true => rw [hc] at h8; exact absurd h8 (by decide : ¬ (8 : Int) = 0)
  | false =>
   rw [hc, e] at h8
   exact SX h8
theorem ajh {b : af} {w : aK} (h : 5 ≤ dX b w) : bf b = true ∧ eU w = true ∧ b.2.2.2.2 < w.1 := by
 unfold dX at h
 cases h1 : bf b with
 | false => rw [h1] at h; exact absurd h (by decide : ¬ (5 : Int) ≤ 1)
 | true =>
 cases h2 : eU w with
 | false => rw [h1, h2] at h; exact absurd h (by decide : ¬ (5 : Int) ≤ 2)
 | true =>
 cases h3 : fV b w with
 | false => rw [h1, h2, h3] at h; exact absurd h (by decide : ¬ (5 : Int) ≤ 2)
 | true =>
 rw [h1, h2, h3] at h
 simp only [Bool.not_true, cond_false] at h
 by_cases hp : bM b w.1 ≥ 0
 ·rw [decide_eq_true hp, cond_true] at h
  cases hs : zJ (N8 b w.1).1 w with
  | true => rw [hs] at h; exact absurd h (by decide : ¬ (5 : Int) ≤ 0)
  | false => rw [hs] at h; exact absurd h (by decide : ¬ (5 : Int) ≤ 3)
 ·rw [decide_eq_false hp, cond_false] at h
  by_cases h4 : w.1 ≤ b.2.2.2.2
  ·rw [decide_eq_true h4] at h; exact absurd h (by decide : ¬ (5 : Int) ≤ 4)
  ·exact ⟨rfl, rfl, by omega⟩
theorem abp {w : aK} (h : eU w = true) : fM w.2.2.1 8 = true ∧ (w.2.1 ≠ 1 → w.2.2.1 = []) := by
 simp only [eU, Bool.and_eq_true] at h
 obtain ⟨_, _, _, _, _, _, _, _, h1, h2⟩ := h
 refine ⟨h1, fun n => ?_⟩
 rw [beq_eq_false_iff_ne.2 n] at h2
 have := beq_iff_eq.1 h2
 have := of_decide_eq_false this.symm
 exact List.eq_nil_of_length_eq_zero (by omega)
theorem pX (w : aK) (u : Use) (s : bi) : (vg w u s).1 = s.1 := rfl
theorem ahN {b : af} {w : aK} (F : avm b w) {u : Use} (hu : u ∈ w.2.2.2.1) {s : bi} (hs : jT b s = true) (he : dh b u.1 = s) (hr : u.2.1 ≠ 1) :
 fM (uw s.2.2.2.2 w.2.2.1) 8 = true ∧ ik b (uw s.2.2.2.2 w.2.2.1) (uw s.2.2.2.2 w.2.2.1) = false ∧ (w.2.1 = 1 → u.2.1 ≠ 2 → uw s.2.2.2.2 w.2.2.1 = w.2.2.1) := by
 obtain ⟨a1, a2, a3, a4, a5⟩ := ig.1 hs
 obtain ⟨s1, s2⟩ := abp F.wok
 obtain ⟨m1, m2, m3⟩ := pg.1 a4
 obtain ⟨n1, n2, n3⟩ := pg.1 s1
 by_cases hk : w.2.1 = 1
 ·have hst := F.st hk u hu
  unfold lT at hst
  rw [he] at hst
  by_cases h2 : u.2.1 = 2
  ·rw [h2, show ((2 : Int) == 2) = true from rfl, cond_true] at hst
   cases hc : ik b w.2.2.1 s.2.2.2.2 with
   | true => rw [hc] at hst; exact absurd hst (by decide : ¬ (8 : Int) = 0)
   | false =>
    rw [hc, cond_false] at hst
    by_cases hn : (xu s.2.2.2.2 w.2.2.1 : Int) > 8
    ·rw [decide_eq_true hn] at hst; exact absurd hst (by decide : ¬ (5 : Int) = 0)
    ·have el := aaF (AU a4) (AU s1)
     rw [XN m3] at el
     refine ⟨pg.2 ⟨by omega, fun x hx => ?_, Ai _ m3⟩, xY.2 fun f hf => ?_, fun _ h => absurd h2 h⟩
     ·rcases ou.1 hx with h | h
      ·exact m2 x h
      ·exact n2 x h
     ·have c1 := xY.1 a5 f hf
      have c2 := xY.1 hc f hf
      have c3 := xY.1 F.cl f hf
      simp only [ou]
      constructor
      ·rintro ⟨h | h, g | g⟩
       ·exact c1.1 ⟨h, g⟩
       ·exact c2.2 ⟨g, h⟩
       ·exact c2.1 ⟨h, g⟩
       ·exact c3.1 ⟨h, g⟩
      ·rintro ⟨h | h, g | g⟩
       ·exact c1.2 ⟨h, g⟩
       ·exact c2.1 ⟨g, h⟩
       ·exact c2.2 ⟨h, g⟩
       ·exact c3.2 ⟨h, g⟩
  ·rw [beq_eq_false_iff_ne.2 h2, cond_false] at hst
   have hsub : ∀ x ∈ s.2.2.2.2, x ∈ w.2.2.1 := by
    cases ha : s.2.2.2.2.all fun x => w.2.2.1.contains x with
    | false => rw [ha] at hst; exact absurd hst (by decide : ¬ (8 : Int) = 0)
    | true => exact fun x hx => by have := List.all_eq_true.1 ha x hx; simpa using this
   have e : uw s.2.2.2.2 w.2.2.1 = w.2.2.1 := Yc (Ai _ m3) n3 fun x => by
    rw [ou]
    exact ⟨fun h => h.elim (hsub x) id, .inr⟩
   rw [e]
   exact ⟨s1, F.cl, fun _ _ => rfl⟩
 ·rw [s2 hk]
  exact ⟨a4, a5, fun h => absurd h hk⟩
theorem abK {b : af} {w : aK} (F : avm b w) {u : Use} (hu : u ∈ w.2.2.2.1) {s : bi} (hs : jT b s = true) (he : dh b u.1 = s) : jT b (vg w u s) = true ∧ rZ (vg w u s) w u = true := by
 obtain ⟨a1, a2, a3, a4, a5⟩ := ig.1 hs
 have ham := F.am u hu
 unfold mi at ham
 rw [he] at ham
 have hsub : w.2.1 = 1 → u.2.1 ≠ 2 → ∀ x ∈ s.2.2.2.2, x ∈ w.2.2.1 := by
  intro hk h2
  have hst := F.st hk u hu
  unfold lT at hst
  rw [he, beq_eq_false_iff_ne.2 h2, cond_false] at hst
  cases ha : s.2.2.2.2.all fun x => w.2.2.1.contains x with
  | false => rw [ha] at hst; exact absurd hst (by decide : ¬ (8 : Int) = 0)
  | true => exact fun x hx => by have := List.all_eq_true.1 ha x hx; simpa using this
 rcases Ls F.wok hu with ⟨e1, e2⟩ | ⟨e1, ek, e3, e4⟩
 ·obtain ⟨m1, m2, m3⟩ := ahN F hu hs he (by omega)
  have hp : vg w u s = (s.1, s.2.1, s.2.2.1, s.2.2.2.1, uw s.2.2.2.2 w.2.2.1) := by
   unfold vg; rw [e1]; rfl
  rw [hp]
  refine ⟨ig.2 ⟨a1, a2, a3, m1, m2⟩, AO.2 ⟨fun hk => ?_, fun hk h2 => ?_, fun hk h1 x hx => ou.2 (.inr hx), ?_⟩⟩
  ·rw [e1, show ((3 : Int) == 1) = false from rfl, show ((3 : Int) == 2) = false from rfl, hk] at ham
   simp only [Bool.false_and, cond_false] at ham
   show s.2.2.2.1 ≤ 0
   by_cases hm : s.2.2.2.1 > 0
   ·rw [decide_eq_true hm] at ham; exact absurd ham (by decide : ¬ (11 : Int) = 0)
   ·omega
  ·show ∀ x ∈ uw s.2.2.2.2 w.2.2.1, x ∈ w.2.2.1
   rw [m3 hk h2]; exact fun x hx => hx
  ·show IntKind.i64.wrap (s.2.2.1 + u.2.2) ≤ s.2.2.2.1
   rw [e2, wr (by omega) (by omega)]; omega
 ·rcases e1 with e | e
  ·have hlt : ¬ s.2.2.1 < u.2.2 := by
    intro hl
    rw [e, decide_eq_true hl] at ham
    exact absurd ham (by decide : ¬ (9 : Int) = 0)
   have hp : vg w u s = (s.1, s.2.1, s.2.2.1 - u.2.2, s.2.2.2.1, s.2.2.2.2) := by
    unfold vg; rw [e, wr (n := s.2.2.1 - u.2.2) (by omega) (by omega)]; rfl
   rw [hp]
   refine ⟨ig.2 ⟨a1, a2, by simp only; omega, a4, a5⟩, AO.2 ⟨fun hk => by omega, fun hk h2 => hsub hk h2, fun _ h => absurd e h, ?_⟩⟩
   show IntKind.i64.wrap (s.2.2.1 - u.2.2 + u.2.2) ≤ s.2.2.2.1
   rw [wr (by omega) (by omega)]; omega
  ·obtain ⟨m1, m2, m3⟩ := ahN F hu hs he (by omega)
   have hw : IntKind.i64.wrap (s.2.2.2.1 + u.2.2) = s.2.2.2.1 + u.2.2 := wr (by omega) (by omega)
   have hlt : ¬ s.2.2.2.1 + u.2.2 > s.2.1 := by
    intro hl
    rw [e, show ((2 : Int) == 1) = false from rfl, hw, decide_eq_true hl] at ham
    exact absurd ham (by decide : ¬ (10 : Int) = 0)
   have hp : vg w u s = (s.1, s.2.1, s.2.2.1, s.2.2.2.1 + u.2.2, uw s.2.2.2.2 w.2.2.1) := by
    unfold vg; rw [e, hw]; rfl
   rw [hp]
   refine ⟨ig.2 ⟨a1, a2, by simp only; omega, m1, m2⟩, AO.2 ⟨fun hk => by omega, fun _ h => absurd e h, fun hk h1 x hx => ou.2 (.inr hx), ?_⟩⟩
   show IntKind.i64.wrap (s.2.2.1 + u.2.2) ≤ s.2.2.2.1 + u.2.2
   rw [wr (by omega) (by omega)]; omega
theorem aie {b : af} (o : OkB b) {w : aK} (hk : fV b w = true) : w.2.2.2.1.foldl (TC w) b.2.1 = b.2.1.map (KQ (vg w) w.2.2.2.1) :=
 Sj (f := vg w) (pX w) w.2.2.2.1 o.sa fun u hu => al7.1 (Ip hk hu)
theorem axo {b : af} {w : aK} (F : avm b w) : bf (acg b w) = true := by
 have o := fP.1 F.ok
 have e := aie o F.kn
 have ex : (acg b w).2.1 = b.2.1.map (KQ (vg w) w.2.2.2.1) := e
 have hn : (acg b w).2.1.map (·.1) = b.2.1.map (·.1) := by
  rw [ex, List.map_map]; exact List.map_congr_left fun s _ => pU (pX w) _ s
 have hw1 : 1 ≤ w.1 ∧ w.1 ≤ 1000000 := by
  have := F.wok
  simp only [eU, Bool.and_eq_true, inB, decide_eq_true_eq] at this
  omega
 have hso := o.seen
 have em : (b.2.2.2.1 ++ [(w, false)]).map (·.1) = b.2.2.2.1.map (·.1) ++ [w] := by simp
 refine fP.2 ⟨o.foes, o.valves, ⟨by show 0 ≤ w.1; omega, hw1.2⟩, ?_, ?_, ?_, ?_, ?_, ?_⟩
 ·rw [ex, List.length_map]; exact o.sl
 ·rw [ex]
  intro t ht
  obtain ⟨s, hs, rfl⟩ := List.mem_map.1 ht
  have hso := o.so s hs
  show jT b _ = true
  by_cases hc : ∃ u ∈ w.2.2.2.1, u.1 = s.1
  ·obtain ⟨u, hu, eu⟩ := hc
   rw [PX (pX w) (QV F.wok) hu eu]
   exact (abK F hu hso (by rw [eu, KO o.sa hs])).1
  ·rw [Ah fun u hu eu => hc ⟨u, hu, eu⟩]; exact hso
 ·rw [hn]; exact o.sa
 ·show (b.2.2.2.1 ++ [(w, false)]).length ≤ 6
  have := F.six
  simp; omega
 ·show ∀ v ∈ (b.2.2.2.1 ++ [(w, false)]).map (·.1), yZ (acg b w) v
  rw [em]
  intro v hv
  rcases List.mem_append.1 hv with hv | hv
  ·have hvw := o.po v hv
   obtain ⟨p, hp, rfl⟩ := List.mem_map.1 hv
   have hsh := F.sh p hp
   rw [wJ] at hsh
   exact NY (pX w) ex rfl o.sa hvw (by show p.1.1 ≤ w.1; have := hvw.1; have := F.seen; omega) fun u hu => Ws hsh hu
  ·obtain rfl := List.mem_singleton.1 hv
   refine ⟨Int.le_refl _, F.wok, by rw [NL hn rfl]; exact F.kn, fun u hu => ?_⟩
   have h0 := Ip F.kn hu
   obtain ⟨g1, g2⟩ := ve h0
   rw [QM (pU (pX _) _) ex o.sa h0, PX (pX _) (QV F.wok) hu g2.symm]
   exact (abK F hu (o.so _ g1) rfl).2
 ·show ((b.2.2.2.1 ++ [(w, false)]).map (·.1)).Pairwise _
  rw [em]
  refine List.pairwise_append.2 ⟨o.pp, by simp, fun v hv x hx => ?_⟩
  obtain rfl := List.mem_singleton.1 hx
  have hvw := o.po v hv
  obtain ⟨p, hp, rfl⟩ := List.mem_map.1 hv
  have h1 := F.sh p hp
  have h2 := F.cr p hp
  rw [wJ] at h1
  rw [TJ] at h2
  exact ⟨by have := hvw.1; have := F.seen; omega, h1, h2⟩
theorem Y6 : bf ([], [], [], [], 0) = true := by decide +kernel
theorem asi {b : af} {n : Int} (h : bf b = true) (h1 : b.2.2.2.2 ≤ n) (h2 : n ≤ 1000000) : bf (b.1, b.2.1, b.2.2.1, b.2.2.2.1, n) = true := by
 have o := fP.1 h
 have := o.seen
 exact fP.2 ⟨o.foes, o.valves, ⟨by show 0 ≤ n; omega, h2⟩, o.sl, o.so, o.sa, o.pl, fun w hw => by
  obtain ⟨g1, g2, g3, g4⟩ := o.po w hw
  exact ⟨by show w.1 ≤ n; omega, g2, g3, g4⟩, o.pp⟩
theorem aam {w : aK} (h : eU w = true) : 1 ≤ w.1 ∧ w.1 ≤ 1000000 := by
 simp only [eU, Bool.and_eq_true, inB, decide_eq_true_eq] at h
 omega
theorem H6 {b : af} {w : aK} (h : bf b = true) : bf (jL b w).1 = true := by
 obtain ⟨f1, f2, f3, f4, f5⟩ := Dc b w
 unfold jL
 cases h1 : dX b w == 1 with
 | true => exact Y6
 | false =>
  simp only [cond_false]
  cases h24 : inB (dX b w) 2 4 with
  | true => exact h
  | false =>
   simp only [cond_false]
   by_cases hp : bM b w.1 ≥ 0
   ·rw [decide_eq_true hp]; exact h
   ·rw [decide_eq_false hp]
    cases h0 : dX b w == 0 with
    | true => exact axo (aiF (beq_iff_eq.1 h0) (by omega))
    | false =>
     have n0 := beq_eq_false_iff_ne.1 h0
     have n1 := beq_eq_false_iff_ne.1 h1
     have h5 : 5 ≤ dX b w := by
      have : ¬ (2 ≤ dX b w ∧ dX b w ≤ 4) := by
       rintro ⟨g1, g2⟩
       unfold inB at h24
       rw [decide_eq_true (show dX b w ≥ 2 from g1), decide_eq_true g2] at h24
       cases h24
      omega
     obtain ⟨_, g2, g3⟩ := ajh h5
     have := aam g2
     exact asi h (by omega) (by omega)
theorem xO {x : Txt} (h : nP x = true) : x.length ≤ 8 := by
 simp only [nP, inB, Bool.and_eq_true, decide_eq_true_eq] at h
 omega
theorem QN {l : List Txt} {n : Int} (hn : n ≤ 1000) (h : fM l n = true) : smL l := by
 obtain ⟨h1, h2, _⟩ := pg.1 h
 exact ⟨by omega, fun x hx => by have := xO (h2 x hx); unfold smT; omega⟩
theorem asa {w : aK} (h : eU w = true) : smW w := by
 have h' := h
 simp only [eU, sZ, Bool.and_eq_true, Bool.not_eq_true', decide_eq_false_iff_not] at h
 obtain ⟨_, _, ⟨h1, h2⟩, h3, h4, _, _, _, h5, _⟩ := h
 refine ⟨QN (by omega) h5, ⟨by omega, fun u hu => ?_⟩, QN (by omega) h3, QN (by omega) h4⟩
 obtain ⟨i, hi⟩ := List.getElem?_of_mem hu
 have := gu.1 h2 i u hi
 simp only [xy, Bool.and_eq_true] at this
 have := xO this.1
 unfold smU smT; omega
theorem xJ {b : af} (h : bf b = true) : smB b := by
 have o := fP.1 h
 have hf := o.foes
 simp only [oZ, Bool.and_eq_true, Bool.not_eq_true', decide_eq_false_iff_not] at hf
 have h1 := o.sl
 have h2 := o.pl
 refine ⟨⟨by omega, fun f hm => ?_⟩, ⟨by omega, fun s hs => ?_⟩, QN (by omega) o.valves, by omega, fun p hp => ?_⟩
 ·obtain ⟨i, hi⟩ := List.getElem?_of_mem hm
  have := gu.1 hf.2 i f hi
  simp only [uj, Bool.and_eq_true] at this
  have g1 := xO this.1
  have g2 := xO this.2.1
  exact ⟨by unfold smT; omega, by unfold smT; omega⟩
 ·obtain ⟨a1, _, _, a4, _⟩ := ig.1 (o.so s hs)
  have := xO a1
  exact ⟨by unfold smT; omega, QN (by omega) a4⟩
 ·exact asa (o.po p.1 (List.mem_map.2 ⟨p, hp, rfl⟩)).2.1
end Go.MC
namespace Go.MC
open Go.MC.F
def nm5 : List Txt := [[106, 49], [106, 50], [107, 101, 103], [116, 117, 110], [118, 97, 116]]
def vl6 : List Txt := [[97], [98], [99], [100], [101], [102]]
def aw3 : List Txt := [[97, 108, 101], [109, 97, 108, 116], [119, 97, 116, 101, 114]]
def akz : List Foe := [([97, 108, 101], [108, 121, 101]), ([108, 121, 101], [109, 97, 108, 116])]
def agu (s : bi) : Prop := (s.2.2.2.2 = [] ∨ ∃ x ∈ aw3, s.2.2.2.2 = [x]) ∧ 0 ≤ s.2.2.1 ∧ s.2.2.1 = s.2.2.2.1 ∧ s.2.2.2.1 ≤ s.2.1 ∧ 0 ≤ s.2.1 ∧ s.2.1 ≤ 50
def apn (b : af) : Prop := (b.1 = akz ∨ b.1 = akz.drop 1) ∧ ((b.2.1.map (·.1)).Sublist nm5 ∧ ∀ s ∈ b.2.1, agu s) ∧ b.2.2.1.Sublist vl6 ∧ b.2.2.2.1 = [] ∧ b.2.2.2.2 = 0
theorem ayD {N : Nat} (hN : lim < N) {c : Int} {r : Rdr} (hr : rdG c r) (hc : c ≤ 999999990000) (t z : Int) (fs : List Foe) (sp : List bi) :
 dL (Bh N t fs z sp vl6 N 0 r.1 r.2 []) fun q => rdG (c + 6) q.2 ∧ ∃ vs, vs.Sublist vl6 ∧ q.1 = (fs, sp, vs, [], z) := by
 have hlim := aY
 have h6 : vl6.length = 6 := rfl
 refine jU 6 (fun (g : Int → List Int → Int → List Txt → Option (af × Rdr)) i (st : Rdr × List Txt) => g i st.1.1 st.1.2 st.2) (z := fun _ _ _ _ => none) (rd := fun next => zK N t fs z sp vl6 next) (fun i st => rdG (c + i) st.1 ∧ st.2.Sublist (vl6.take i))
  (fun g i st hi hv on => ?_) (fun g st hv => ?_) (N := N) (st := (r, [])) (by omega) ⟨hr.mono (by omega), by simp⟩
 ·have hln := hv.2.length_le
  rw [List.length_take] at hln
  have hi' : i < vl6.length := by omega
  unfold zK
  simp only [wrS (i := i) (by omega), gAt hi']
  exact gIf (by omega) ((fK hv.1 (by omega) (by omega)).ob fun k hk => rf (fun _ => gIf (by omega) (gIf (by omega) (gIf (by omega) (on (k.2, _) ⟨hk.2.2.mono (by omega), Yt hi' hv.2⟩)))) fun _ => on (k.2, st.2) ⟨hk.2.2.mono (by omega), Ui hi' hv.2⟩)
 ·unfold zK
  exact yS (by omega) (.some ⟨hv.1, _, hv.2.trans (List.take_sublist _ _), rfl⟩)
theorem avI {N : Nat} (hN : lim < N) {c : Int} {r : Rdr} (hr : rdG c r) (hc : c ≤ 999999980000) (fs : List Foe) :
 dL (Qd N 0 fs 0 nm5 N 0 r.1 r.2 []) fun q => rdG (c + 40) q.2 ∧ ∃ sp vs, ((sp.map (·.1)).Sublist nm5 ∧ ∀ s ∈ sp, agu s) ∧ vs.Sublist vl6 ∧ q.1 = (fs, sp, vs, [], 0) := by
 have hlim := aY
 have h5 : nm5.length = 5 := rfl
 refine jU 5 (fun (g : Int → List Int → Int → List bi → Option (af × Rdr)) i (st : Rdr × List bi) => g i st.1.1 st.1.2 st.2) (z := fun _ _ _ _ => none) (rd := fun next => zy N (Bh N) 0 fs 0 nm5 next) (fun i st => rdG (c + 5 * i) st.1 ∧ (st.2.map (·.1)).Sublist (nm5.take i) ∧ ∀ s ∈ st.2, agu s)
  (fun g i st hi hv on => ?_) (fun g st hv => ?_) (N := N) (st := (r, [])) (by omega) ⟨hr.mono (by omega), by simp, by simp⟩
 ·have hln := hv.2.1.length_le
  rw [List.length_take, List.length_map] at hln
  have hi' : i < nm5.length := by omega
  have on' : ∀ (q : Rdr) (s : bi), rdG (c + 5 * ((i + 1 : Nat) : Int)) q → s.1 = nm5[i] → agu s → dL (g ((i + 1 : Nat) : Int) q.1 q.2 (st.2 ++ [s])) _ := fun q s hq e hs => on (q, st.2 ++ [s]) ⟨hq, by
   rw [List.map_append, List.map_cons, e]; exact Yt hi' hv.2.1, fun x hx => by
   rcases List.mem_append.1 hx with hx | hx
   ·exact hv.2.2 x hx
   ·rw [List.mem_singleton.1 hx]; exact hs⟩
  unfold zy
  simp only [wrS (i := i) (by omega), gAt hi']
  have hgd : (st.2.length + 1) * 64 ≤ lim := by omega
  refine gIf (by omega) ((fK hv.1 (by omega) (by omega)).ob fun k hk => gBy (fun _ => on (k.2, st.2) ⟨hk.2.2.mono (by omega), Ui hi' hv.2.1, hv.2.2⟩) fun _ => gIf (by omega) (gIf (by omega) (rf (fun _ => ?_) fun _ => gIf hgd (on' k.2 _ (hk.2.2.mono (by omega)) rfl ⟨.inl rfl, Int.le_refl 0, rfl, Int.le_refl 0, Int.le_refl 0, (by decide : (0 : Int) ≤ 50)⟩))))
  refine (fK hk.2.2 (by omega) (by omega)).ob fun k3 h3 => ?_
  have e1 : IntKind.i64.wrap (10 + k3.1) = 10 + k3.1 := wr (by omega) (by omega)
  have e2 : IntKind.i64.wrap (10 + k3.1 + 1) = 10 + k3.1 + 1 := wr (by omega) (by omega)
  simp only [e1, e2]
  refine (fK h3.2.2 (by omega) (by omega)).ob fun k4 h4 => (fK h4.2.2 (by omega) (by omega)).ob fun k5 h5 => ?_
  refine gBy (fun _ => gIf hgd (on' k5.2 _ (h5.2.2.mono (by omega)) rfl ⟨.inl rfl, Int.le_refl 0, rfl, by show (0 : Int) ≤ 10 + k3.1; omega, by show (0 : Int) ≤ 10 + k3.1; omega, by show 10 + k3.1 ≤ 50; omega⟩)) fun _ => rf (fun _ => ?_) fun _ => ?_
  ·exact (ab5 h5.2.2 (by omega) (by decide)).ob fun x hx => gIf hgd (on' x.2 _ (hx.2.mono (by omega)) rfl ⟨.inr ⟨x.1, hx.1, rfl⟩, h4.1, rfl, by show k4.1 ≤ 10 + k3.1; omega, by show (0 : Int) ≤ 10 + k3.1; omega, by show 10 + k3.1 ≤ 50; omega⟩)
  ·exact gIf hgd (on' k5.2 _ (h5.2.2.mono (by omega)) rfl ⟨.inl rfl, h4.1, rfl, by show k4.1 ≤ 10 + k3.1; omega, by show (0 : Int) ≤ 10 + k3.1; omega, by show 10 + k3.1 ≤ 50; omega⟩)
 ·unfold zy
  exact yS (by omega) ((ayD hN hv.1 (by omega) 0 0 fs st.2).mono fun q ⟨h1, vs, h2, h3⟩ => ⟨h1.mono (by omega), st.2, vs, ⟨hv.2.1.trans (List.take_sublist _ _), hv.2.2⟩, h2, h3⟩)
theorem ap0 {N : Nat} (hN : lim < N) {c : Int} {r : Rdr} (hr : rdG c r) (hc : c ≤ 999999970000) : dL (WI N r) fun q => rdG (c + 41) q.2 ∧ apn q.1 := by
 unfold WI ae5
 refine (fK hr (by omega) (by omega)).ob fun k hk => gBy (fun _ => ?_) fun _ => ?_
 ·refine (avI hN hk.2.2 (by omega) (akz.drop 1)).mono fun q ⟨h1, sp, vs, h2, h3, h4⟩ => ⟨h1.mono (by omega), ?_⟩
  rw [h4]; exact ⟨.inr rfl, h2, h3, rfl, rfl⟩
 ·refine (avI hN hk.2.2 (by omega) akz).mono fun q ⟨h1, sp, vs, h2, h3, h4⟩ => ⟨h1.mono (by omega), ?_⟩
  rw [h4]; exact ⟨.inl rfl, h2, h3, rfl, rfl⟩
theorem axY : fM nm5 8 = true := by decide +kernel
theorem awM : fM vl6 12 = true := by decide +kernel
theorem ahz {l m : List Txt} {n : Int} (h : fM l n = true) (hs : m.Sublist l) : fM m n = true := by
 obtain ⟨h1, h2, h3⟩ := pg.1 h
 have := hs.length_le
 exact pg.2 ⟨by omega, fun x hx => h2 x (hs.subset hx), h3.sublist hs⟩
theorem aut {b : af} (h : apn b) : bf b = true := by
 obtain ⟨h1, ⟨h2, h3⟩, h4, h5, h6⟩ := h
 have hn := pg.1 (ahz axY h2)
 have hf : oZ b = true := by
  rcases h1 with e | e
  ·unfold oZ uj; rw [e]; decide +kernel
  ·unfold oZ uj; rw [e]; decide +kernel
 have hcl : ∀ x ∈ aw3, fM [x] 8 = true ∧ ik b [x] [x] = false := by
  intro x hx
  refine ⟨?_, xY.2 fun f hf => ?_⟩
  ·simp only [aw3, List.mem_cons, List.not_mem_nil, or_false] at hx
   rcases hx with e | e | e <;> rw [e] <;> decide +kernel
  ·have hne : f.1 ≠ f.2 := by
    have : f ∈ akz := by
     rcases h1 with e | e
     ·rwa [e] at hf
     ·rw [e] at hf; exact List.mem_of_mem_drop hf
    simp only [akz, List.mem_cons, List.not_mem_nil, or_false] at this
    rcases this with e | e <;> rw [e] <;> decide
   simp only [List.mem_singleton]
   exact ⟨fun h => hne (h.1.trans h.2.symm), fun h => hne (h.2.trans h.1.symm)⟩
 refine fP.2 ⟨hf, ahz awM h4, by rw [h6]; decide, ?_, fun s hs => ?_, hn.2.2, by rw [h5]; decide, by rw [h5]; simp, by rw [h5]; simp⟩
 ·have := hn.1
  rw [List.length_map] at this
  omega
 ·obtain ⟨g1, g2, g3, g4, g5, g6⟩ := h3 s hs
  have hm : fM s.2.2.2.2 8 = true ∧ ik b s.2.2.2.2 s.2.2.2.2 = false := by
   rcases g1 with e | ⟨x, hx, e⟩
   ·rw [e]; exact ⟨rfl, by unfold ik; simp⟩
   ·rw [e]; exact hcl x hx
  exact ig.2 ⟨hn.2.1 _ (List.mem_map.2 ⟨s, hs, rfl⟩), by omega, by omega, hm.1, hm.2⟩
end Go.MC
namespace Go.MC
open Go.MC.F
def mdT (s : Txt) : Prop := s.length ≤ 20
def mdL (n : Nat) (l : List Txt) : Prop := l.length ≤ n ∧ ∀ x ∈ l, mdT x
def mdU (u : Use) : Prop := mdT u.1 ∧ -1 ≤ u.2.2 ∧ u.2.2 ≤ 1001
def mdW (n : Nat) (w : aK) : Prop := mdL 1000 w.2.2.1 ∧ (w.2.2.2.1.length ≤ n ∧ ∀ u ∈ w.2.2.2.1, mdU u) ∧ mdL n w.2.2.2.2.1 ∧ mdL n w.2.2.2.2.2
def mdS (s : bi) : Prop := mdT s.1 ∧ mdL 20 s.2.2.2.2
def mdB (b : af) : Prop := (b.1.length ≤ 20 ∧ ∀ f ∈ b.1, mdT f.1 ∧ mdT f.2) ∧ (b.2.1.length ≤ 20 ∧ ∀ s ∈ b.2.1, mdS s) ∧ mdL 50 b.2.2.1 ∧ (b.2.2.2.1.length ≤ 20 ∧ ∀ p ∈ b.2.2.2.1, mdW 100 p.1) ∧ -1 ≤ b.2.2.2.2 ∧ b.2.2.2.2 ≤ 1000001
theorem mdL.sm {n : Nat} {l : List Txt} (h : mdL n l) (hn : n ≤ 1000) : smL l := ⟨by have := h.1; omega, fun x hx => by have := h.2 x hx; unfold mdT at this; unfold smT; omega⟩
theorem mdL.mono {m n : Nat} {l : List Txt} (h : mdL m l) (hn : m ≤ n) : mdL n l := ⟨by have := h.1; omega, h.2⟩
theorem mdW.sm {n : Nat} {w : aK} (h : mdW n w) (hn : n ≤ 1000) : smW w := ⟨h.1.sm (by omega), ⟨by have := h.2.1.1; omega, fun u hu => by have := (h.2.1.2 u hu).1; unfold mdT at this; unfold smU smT; omega⟩, h.2.2.1.sm (by omega), h.2.2.2.sm (by omega)⟩
theorem mdB.sm {b : af} (h : mdB b) : smB b := ⟨⟨by have := h.1.1; omega, fun f hf => by have := h.1.2 f hf; unfold mdT at this; unfold smF smT; omega⟩, ⟨by have := h.2.1.1; omega, fun s hs => by
 obtain ⟨h1, h2⟩ := h.2.1.2 s hs
 exact ⟨by unfold mdT at h1; unfold smT; omega, h2.sm (by omega)⟩⟩, h.2.2.1.sm (by omega), by have := h.2.2.2.1.1; omega, fun p hp => (h.2.2.2.1.2 p hp).sm (by omega)⟩
theorem Uc {l : List Txt} {n : Int} {m : Nat} (hn : n ≤ m) (h : fM l n = true) : mdL m l := by
 obtain ⟨h1, h2, _⟩ := pg.1 h
 exact ⟨by omega, fun x hx => by have := xO (h2 x hx); unfold mdT; omega⟩
theorem mdW.mono {m n : Nat} {w : aK} (h : mdW m w) (hn : m ≤ n) : mdW n w := ⟨h.1, ⟨Nat.le_trans h.2.1.1 hn, h.2.1.2⟩, h.2.2.1.mono hn, h.2.2.2.mono hn⟩
theorem arD {w : aK} (h : eU w = true) : mdW 50 w := by
 have h' := h
 simp only [eU, sZ, Bool.and_eq_true, Bool.not_eq_true', decide_eq_false_iff_not] at h
 obtain ⟨_, _, ⟨h1, h2⟩, h3, h4, _, _, _, h5, _⟩ := h
 refine ⟨Uc (by omega) h5, ⟨by omega, fun u hu => ?_⟩, Uc (by omega) h3, Uc (by omega) h4⟩
 obtain ⟨i, hi⟩ := List.getElem?_of_mem hu
 have := gu.1 h2 i u hi
 simp only [xy, Bool.and_eq_true] at this
 have := xO this.1
 have := Ls h' hu
 exact ⟨by unfold mdT; omega, by omega, by omega⟩
theorem GI {b : af} (h : bf b = true) : mdB b := by
 have o := fP.1 h
 have hf := o.foes
 simp only [oZ, Bool.and_eq_true, Bool.not_eq_true', decide_eq_false_iff_not] at hf
 have h1 := o.sl
 have h2 := o.pl
 have h3 := o.seen
 refine ⟨⟨by omega, fun f hm => ?_⟩, ⟨by omega, fun s hs => ?_⟩, Uc (by omega) o.valves, ⟨by omega, fun p hp => ?_⟩, by omega, by omega⟩
 ·obtain ⟨i, hi⟩ := List.getElem?_of_mem hm
  have := gu.1 hf.2 i f hi
  simp only [uj, Bool.and_eq_true] at this
  have g1 := xO this.1
  have g2 := xO this.2.1
  exact ⟨by unfold mdT; omega, by unfold mdT; omega⟩
 ·obtain ⟨a1, _, _, a4, _⟩ := ig.1 (o.so s hs)
  have := xO a1
  exact ⟨by unfold mdT; omega, Uc (by omega) a4⟩
 ·exact arD (o.po p.1 (List.mem_map.2 ⟨p, hp, rfl⟩)).2.1 |>.mono (by omega)
theorem asM {n : Nat} {l : List Txt} {x : Txt} (h : mdL n l) (hx : mdT x) : mdL (n + 1) (qX l x) :=
 ⟨by have := sQ l x; have := h.1; omega, fun y hy => by
  rcases Jn.1 hy with rfl | hy
  ·exact hx
  ·exact h.2 y hy⟩
theorem ayH {N : Nat} (hN : lim < N) {n : Nat} {l : List Txt} {x : Txt} (h : mdL n l) (hn : n ≤ 2000) (hx : mdT x) : dL (aaI N l x) (mdL (n + 1)) :=
 ⟨_, ack hN (by have := h.1; omega) x, asM h hx⟩
theorem ayq {N : Nat} (hN : lim < N) {number t0 t1 kind : Int} {st : List Txt} {us : List Use} {r10 r11 : List Txt × Rdr} (h0 : r10.1.length ≤ 100) (h1 : mdL 50 r11.1) :
 dL (sJ N number t0 t1 kind st us r10 r11 N 0 []) fun q => q.2 = r11.2 ∧ ∃ o, mdL 50 o ∧ q.1 = (number, kind, st, us, o, r10.1) := by
 have hlim := aY
 have hl := h1.1
 refine jU r11.1.length (fun (g : Int → List Txt → Option (aK × Rdr)) i (o : List Txt) => g i o) (z := fun _ _ => none) (rd := fun next => qj N number t0 t1 kind st us r10 r11 next) (fun i o => mdL i o) (fun g i o hi hv on => ?_) (fun g o hv => ?_) (N := N) (st := []) (by omega) ⟨by simp, by simp⟩
 ·have := hv.1
  unfold qj
  simp only [wrS (i := i) (by omega), gAt hi, au (NQ hN (show r10.1.length ≤ lim by omega) _)]
  exact gIf (by omega) (gIf (by omega) (gIf (by omega) (gBy (fun _ => gIf (by omega) (gIf (by omega) (gIf (by omega) (on _ ⟨by simp; omega, fun x hx => by
   rcases List.mem_append.1 hx with hx | hx
   ·exact hv.2 x hx
   ·rw [List.mem_singleton.1 hx]; exact h1.2 _ (List.getElem_mem hi)⟩)))) fun _ => on o (hv.mono (by omega)))))
 ·unfold qj
  exact yS (by omega) (.some ⟨rfl, o, hv.mono hl, rfl⟩)
theorem ayc {N : Nat} (hN : lim < N) {nx : Int → List Int → Int → List Txt → List Use → Option (aK × Rdr)} {b : af} {number t0 t1 kind role am : Int} {i : Nat} {us : List Use} {nm : Txt} {P : aK × Rdr → Prop} (hbl : b.2.1.length ≤ 20) (hi : i < b.2.1.length) (hm : mdL 20 b.2.1[i].2.2.2.2) (hu : us.length ≤ 100)
 {c : Int} {r : Rdr} (hr : rdG c r) (hc : c ≤ 999999960000) {n : Nat} {st : List Txt} (hs : mdL n st) (hn : n ≤ 1500)
 (hnx : ∀ (q : Rdr) (s : List Txt), rdG (c + 20) q → mdL (n + 20) s → dL (nx ((i + 1 : Nat) : Int) q.1 q.2 s (us ++ [(nm, role, am)])) P) :
 dL (pM N nx b number t0 t1 kind (i : Int) us nm role am N 0 r.1 r.2 st) P := by
 have hlim := aY
 have hml := hm.1
 have hg : (us.length + 1) * 32 ≤ lim := by omega
 refine jU b.2.1[i].2.2.2.2.length (fun (g : Int → List Int → Int → List Txt → Option (aK × Rdr)) k (s : Rdr × List Txt) => g k s.1.1 s.1.2 s.2) (z := fun _ _ _ _ => none) (rd := fun next => qV N nx b number t0 t1 kind (i : Int) us nm role am next) (fun k s => rdG (c + k) s.1 ∧ mdL (n + k) s.2)
  (fun g k s hk hv on => ?_) (fun g s hv => ?_) (N := N) (st := (r, st)) (by omega) ⟨hr.mono (by omega), hs⟩
 ·have out : dL (bif decide ((us.length + 1) * 32 ≤ lim) then nx ((i + 1 : Nat) : Int) s.1.1 s.1.2 s.2 (us ++ [(nm, role, am)]) else none) P := gIf hg (hnx _ _ (hv.1.mono (by omega)) (hv.2.mono (by omega)))
  unfold qV
  simp only [wrS (i := i) (by omega), wrS (i := k) (by omega), gAt hi, gAt hk]
  refine gIf (by omega) (gIf (by omega) (gIf (by omega) (gBy (fun _ => gBy (fun _ => ?_) fun _ => out) fun _ => out)))
  refine (fK hv.1 (by omega) (by omega)).ob fun p hp => rf (fun _ => gIf (by omega) (gIf (by omega) (gIf (by omega) (gIf (by omega) ?_)))) fun _ => gIf hg (hnx _ _ (hp.2.2.mono (by omega)) (hv.2.mono (by omega)))
  exact (ayH hN hv.2 (by omega) (hm.2 _ (List.getElem_mem hk))).ob fun s' hs' => on (p.2, s') ⟨hp.2.2.mono (by omega), hs'⟩
 ·unfold qV
  simp only [wrS (i := i) (by omega), gAt hi]
  exact gIf (by omega) (gIf (by omega) (yS (by omega) (gIf hg (hnx _ _ (hv.1.mono (by omega)) (hv.2.mono (by omega))))))
theorem ayv {N : Nat} (hN : lim < N) {nx : Int → List Int → Int → List Txt → Option (aK × Rdr)} {b : af} {number t0 t1 kind : Int} {i : Nat} {r3 : Int × Rdr} {P : aK × Rdr → Prop} (hbl : b.2.1.length ≤ 20) (hi : i < b.2.1.length) (hm : mdL 20 b.2.1[i].2.2.2.2)
 {n : Nat} {st : List Txt} (hs : mdL n st) (hn : n ≤ 1500) (hnx : ∀ (s : List Txt), mdL (n + 20) s → dL (nx ((i + 1 : Nat) : Int) r3.2.1 r3.2.2 s) P) :
 dL (sN N nx b number t0 t1 kind (i : Int) r3 N 0 st) P := by
 have hlim := aY
 have hml := hm.1
 refine jU b.2.1[i].2.2.2.2.length (fun (g : Int → List Txt → Option (aK × Rdr)) k (s : List Txt) => g k s) (z := fun _ _ => none) (rd := fun next => qQ N nx b number t0 t1 kind (i : Int) r3 next) (fun k s => mdL (n + k) s)
  (fun g k s hk hv on => ?_) (fun g s hv => ?_) (N := N) (st := st) (by omega) hs
 ·unfold qQ
  simp only [wrS (i := i) (by omega), wrS (i := k) (by omega), gAt hi, gAt hk]
  exact gIf (by omega) (gIf (by omega) (gIf (by omega) (gIf (by omega) (gIf (by omega) (gIf (by omega) (gIf (by omega) ((ayH hN hv (by omega) (hm.2 _ (List.getElem_mem hk))).ob fun s' hs' => on s' hs')))))))
 ·unfold qQ
  simp only [wrS (i := i) (by omega), gAt hi]
  exact gIf (by omega) (gIf (by omega) (yS (by omega) (hnx _ (hv.mono (by omega)))))
theorem ao7 {N : Nat} (hN : lim < N) {b : af} (hb : mdB b) {number t0 t1 kind : Int} {c : Int} {r : Rdr} (hr : rdG c r) (hc : c ≤ 999999950000) {st : List Txt} (hs : mdL 500 st) :
 dL (nY N b number t0 t1 kind N 0 r.1 r.2 st []) fun q => rdG (c + 1000) q.2 ∧ mdW 50 q.1 := by
 have hlim := aY
 have hl := hb.2.1.1
 have hv50 := hb.2.2.1
 have sub50 : ∀ {o : List Txt}, o.Sublist b.2.2.1 → mdL 50 o := fun {o} h => ⟨Nat.le_trans h.length_le hv50.1, fun x hx => hv50.2 x (h.subset hx)⟩
 refine jU b.2.1.length (fun (g : Int → List Int → Int → List Txt → List Use → Option (aK × Rdr)) k (s : Rdr × List Txt × List Use) => g k s.1.1 s.1.2 s.2.1 s.2.2) (z := fun _ _ _ _ _ => none) (rd := fun next => qi N (pM N next b number t0 t1 kind) (sJ N) b number t0 t1 kind next) (fun k s => rdG (c + 25 * k) s.1 ∧ mdL (500 + 20 * k) s.2.1 ∧ s.2.2.length ≤ k ∧ ∀ u ∈ s.2.2, mdU u)
  (fun g k s hk hv on => ?_) (fun g s hv => ?_) (N := N) (st := (r, st, [])) (by omega) ⟨hr.mono (by omega), hs, by simp, by simp⟩
 ·have hsp := hb.2.1.2 _ (List.getElem_mem hk)
  have hlen := hv.2.2.1
  have on6 : ∀ (q : Rdr) (role am : Int), rdG (c + 25 * k + 3) q → -1 ≤ am → am ≤ 1001 → dL (pM N g b number t0 t1 kind (k : Int) s.2.2 b.2.1[k].1 role am N 0 q.1 q.2 s.2.1) fun q => rdG (c + 1000) q.2 ∧ mdW 50 q.1 := fun q role am hq a1 a2 =>
   ayc hN hl hk hsp.2 (by omega) hq (by omega) hv.2.1 (by omega) fun q' s' hq' hs' => on (q', s', s.2.2 ++ [(b.2.1[k].1, role, am)]) ⟨hq'.mono (by omega), hs'.mono (by omega), by simp; omega, fun u hu => by
    rcases List.mem_append.1 hu with hu | hu
    ·exact hv.2.2.2 u hu
    ·rw [List.mem_singleton.1 hu]; exact ⟨hsp.1, a1, a2⟩⟩
  unfold qi
  simp only [wrS (i := k) (by omega), gAt hk]
  refine gIf (by omega) ((fK hv.1 (by omega) (by omega)).ob fun p hp => rf (fun _ => on (p.2, s.2) ⟨hp.2.2.mono (by omega), hv.2.1.mono (by omega), Nat.le_succ_of_le hlen, hv.2.2.2⟩) fun _ => gIf (by omega) (gIf (by omega) (gBy (fun _ => gIf (by omega) (gIf (by omega) (rf (fun _ => ?_) fun _ => on6 _ 3 0 (hp.2.2.mono (by omega)) (by omega) (by omega)))) fun _ => on6 _ 3 0 (hp.2.2.mono (by omega)) (by omega) (by omega))))
  refine (fK hp.2.2 (by omega) (by omega)).ob fun p2 hp2 => (fK hp2.2.2 (by omega) (by omega)).ob fun p3 hp3 => ?_
  rw [wr (n := 1 + p3.1) (by omega) (by omega)]
  exact on6 _ _ _ (hp3.2.2.mono (by omega)) (by omega) (by omega)
 ·have hlen := hv.2.2.1
  have h50 := hv50.1
  have hus : s.2.2.length ≤ 50 ∧ ∀ u ∈ s.2.2, mdU u := ⟨by omega, hv.2.2.2⟩
  have hst : mdL 1000 s.2.1 := hv.2.1.mono (by omega)
  unfold qi
  refine yS (by omega) ((ant hN hv.1 (by omega) (by omega) 4).ob fun p hp => gBy (fun _ => ?_) fun _ => .some ⟨hp.1.mono (by omega), hst, hus, ⟨by simp, by simp⟩, sub50 hp.2⟩)
  refine (ant hN hp.1 (by omega) (by omega) 3).ob fun p2 hp2 => ?_
  refine (ayq hN (by have := (sub50 hp.2).1; omega) (sub50 hp2.2)).mono fun q ⟨h1, o, h2, h3⟩ => ?_
  rw [h1, h3]
  exact ⟨hp2.1.mono (by omega), hst, hus, h2, sub50 hp.2⟩
theorem arh {N : Nat} (hN : lim < N) {b : af} (hb : mdB b) {c : Int} {r : Rdr} (hr : rdG c r) (hc : c ≤ 999999940000) (number : Int) : dL (Uj N r b number) fun q => rdG (c + 1100) q.2 ∧ mdW 50 q.1 := by
 have hlim := aY
 have hl := hb.2.1.1
 unfold Uj YP
 refine (fK hr (by omega) (by omega)).ob fun p hp => gIf hp.1 (gIf (by simp only [List.length_cons, List.length_nil]; omega) (gBy (fun _ => ?_) fun _ => (ao7 hN hb hp.2.2 (by omega) ⟨by simp, by simp⟩).mono fun q h => ⟨h.1.mono (by omega), h.2⟩))
 refine (ab5 hp.2.2 (by omega) (by decide)).ob fun x hx => ?_
 have hxt : mdT x.1 := by
  have := hx.1
  simp only [List.mem_cons, List.not_mem_nil, or_false] at this
  rcases this with e | e | e | e <;> rw [e] <;> unfold mdT <;> decide
 generalize [1, 1, 1, 2, 3].getD (Int.toNat p.1) (Int.ofNat 0) = kind
 refine jU b.2.1.length (fun (g : Int → List Int → Int → List Txt → Option (aK × Rdr)) k (s : Rdr × List Txt) => g k s.1.1 s.1.2 s.2) (z := fun _ _ _ _ => none) (rd := fun next => qJ N (sN N next b number 0 0 kind) (nY N) b number 0 0 kind next) (fun k s => rdG (c + 2 + k) s.1 ∧ mdL (1 + 20 * k) s.2)
  (fun g k s hk hv on => ?_) (fun g s hv => ?_) (N := N) (st := (x.2, [x.1])) (by omega) ⟨hx.2.mono (by omega), by simp, fun y hy => by rw [List.mem_singleton.1 hy]; exact hxt⟩
 ·unfold qJ
  refine gIf (by omega) ((fK hv.1 (by omega) (by omega)).ob fun p hp => gBy (fun _ => ?_) fun _ => (ao7 hN hb hp.2.2 (by omega) (hv.2.mono (by omega))).mono fun q h => ⟨h.1.mono (by omega), h.2⟩)
  exact ayv hN hl hk (hb.2.1.2 _ (List.getElem_mem hk)).2 hv.2 (by omega) fun s' hs' => on (p.2, s') ⟨hp.2.2.mono (by omega), hs'.mono (by omega)⟩
 ·unfold qJ
  exact yS (by omega) ((ao7 hN hb hv.1 (by omega) (hv.2.mono (by omega))).mono fun q h => ⟨h.1.mono (by omega), h.2⟩)
end Go.MC
namespace Go.MC
open Go.MC.F
theorem ayp {N : Nat} : ∀ (k m : Nat) (n : Int), k ≤ m → k ≤ 17 → 0 ≤ n → n < 10 ^ (k + 1) → dL (m_ N m n) fun t => t.length ≤ k + 1
 | 0, m, n, hkm, hk, h0, h1 => by
  have h1 : n < 10 := by simpa using h1
  cases m <;> (unfold m_; exact yS (by omega) (gIf h1 (.some (by simp))))
 | k + 1, 0, n, hkm, _, _, _ => by omega
 | k + 1, m + 1, n, hkm, hk, h0, h1 => by
  have hlim := aY
  unfold m_
  refine yS (by omega) (rf (fun _ => .some (by simp)) fun h => ?_)
  have hp : (10 : Int) ^ (k + 1 + 1) = 10 ^ (k + 1) * 10 := Int.pow_succ ..
  have hb : (10 : Int) ^ (k + 1 + 1) ≤ 1000000000000000000 := by
   have : (10 : Int) ^ (k + 1 + 1) = ((10 ^ (k + 1 + 1) : Nat) : Int) := by simp
   rw [this]
   have : 10 ^ (k + 1 + 1) ≤ 10 ^ 18 := Nat.pow_le_pow_right (by omega) (by omega)
   omega
  have hd : n.tdiv 10 = n / 10 := Int.tdiv_eq_ediv_of_nonneg h0
  rw [hd, wr (by omega) (by omega)]
  refine (ayp k m (n / 10) (by omega) (by omega) (by omega) (by omega)).ob fun t ht => gIf (by simp; omega) (.some (by simp; omega))
theorem axN {N : Nat} {n : Int} (h0 : 0 ≤ n) (h1 : n < 100) : dL (jO N n) fun t => t.length ≤ 2 := ayp 1 64 n (by omega) (by omega) h0 (by simpa using h1)
theorem mdL.add {n : Nat} {l : List Txt} {x : Txt} (h : mdL n l) (hx : mdT x) : mdL (n + 1) (l ++ [x]) := ⟨by have := h.1; simp; omega, fun y hy => by
 rcases List.mem_append.1 hy with hy | hy
 ·exact h.2 y hy
 ·rw [List.mem_singleton.1 hy]; exact hx⟩
theorem Jc {α : Type} {l : List α} {i : Nat} {d : α} {P : α → Prop} (hl : ∀ x ∈ l, P x) (hd : P d) : P (l.getD i d) := by
 rw [List.getD_eq_getElem?_getD]
 cases hi : l[i]? with
 | none => exact hd
 | some x => exact hl x (List.mem_of_getElem? hi)
theorem arA {α : Type} {l : List α} {i : Nat} {x : α} {P : α → Prop} (hl : ∀ y ∈ l, P y) (hx : P x) : ∀ y ∈ l.set i x, P y := fun y hy => by
 rcases List.mem_or_eq_of_mem_set hy with h | h
 ·exact hl y h
 ·rw [h]; exact hx
theorem NZ {N : Nat} (hN : lim < N) {w : aK} (hw : mdW 50 w) {c : Int} {r : Rdr} (hr : rdG c r) (hc : c ≤ 999999940000) : dL (aap N r w) fun q => rdG (c + 10) q.2 ∧ mdW 100 q.1 := by
 have hlim := aY
 have hw100 := hw.mono (show 50 ≤ 100 by omega)
 have three : ∀ x ∈ ([[], [97], [122, 122]] : List Txt), mdT x := by unfold mdT; decide
 have three' : ∀ x ∈ ([[], [107, 101, 103], [122, 122]] : List Txt), mdT x := by unfold mdT; decide
 have hu := hw.2.1.1
 have ho := hw.2.2.1.1
 have hs := hw.2.2.2.1
 unfold aap ahJ
 rw [au (Ll (hw.sm (by omega)))]
 refine (fK hr (by omega) (by omega)).ob fun p hp => gBy (fun _ => ?_) fun _ => gBy (fun _ => ?_) fun _ => gBy (fun _ => ?_) fun _ => gBy (fun _ => ?_) fun _ => gBy (fun _ => ?_) fun _ => gBy (fun _ => ?_) fun _ => gBy (fun _ => ?_) fun _ => ?_
 ·exact (fK hp.2.2 (by omega) (by omega)).ob fun q hq => gIf hq.1 (gIf (by simp only [List.length_cons, List.length_nil]; omega) (.some ⟨hq.2.2.mono (by omega), hw100⟩))
 ·exact (fK hp.2.2 (by omega) (by omega)).ob fun q hq => .some ⟨hq.2.2.mono (by omega), hw100⟩
 ·refine (fK hp.2.2 (by omega) (by omega)).ob fun q hq => gIf hq.1 (gIf (by simp only [List.length_cons, List.length_nil]; omega) (.some ⟨hq.2.2.mono (by omega), ?_, hw100.2⟩))
  exact Jc (P := mdL 1000) (by unfold mdL mdT; decide) (by unfold mdL mdT; decide)
 ·exact (ab5 hp.2.2 (by omega) (by decide)).ob fun x hx => (fK hx.2 (by omega) (by omega)).ob fun q hq => (fK hq.2.2 (by omega) (by omega)).ob fun q2 hq2 => gIf (by omega) (.some ⟨hq2.2.2.mono (by omega), hw.1, ⟨by simp; omega, fun u hu => by
   rcases List.mem_append.1 hu with hu | hu
   ·exact hw.2.1.2 u hu
   ·rw [List.mem_singleton.1 hu]; exact ⟨three' _ hx.1, by show -1 ≤ q2.1; omega, by show q2.1 ≤ 1001; omega⟩⟩, hw100.2.2⟩)
 ·refine rf (fun h => ?_) fun _ => .some ⟨hp.2.2.mono (by omega), hw100⟩
  refine (fK hp.2.2 (by omega) (by omega)).ob fun q hq => (fK hq.2.2 (by omega) (by omega)).ob fun q2 hq2 => gIf hq2.1 (gIf (by simp only [List.length_cons, List.length_nil]; omega) (gIf hq.1 (gIf hq.2.1 (.some ⟨hq2.2.2.mono (by omega), hw.1, ⟨by simp; omega, ?_⟩, hw100.2.2⟩))))
  have hm := hw.2.1.2 _ (j_ (show q.1.toNat < w.2.2.2.1.length by omega) bY)
  exact arA hw.2.1.2 ⟨hm.1, Jc (P := fun z : Int => -1 ≤ z ∧ z ≤ 1001) (by decide) (by decide)⟩
 ·exact (ab5 hp.2.2 (by omega) (by decide)).ob fun x hx => gIf (by omega) (.some ⟨hx.2.mono (by omega), hw.1, hw100.2.1, (hw.2.2.1.add (three _ hx.1)).mono (by omega), hw100.2.2.2⟩)
 ·exact (ab5 hp.2.2 (by omega) (by decide)).ob fun x hx => gIf (by omega) (.some ⟨hx.2.mono (by omega), hw.1, hw100.2.1, hw100.2.2.1, (hw.2.2.2.add (three _ hx.1)).mono (by omega)⟩)
 ·refine (fK hp.2.2 (by omega) (by omega)).ob fun q hq => ?_
  rw [wr (by omega) (by omega)]
  refine jU 14 (fun (g : Int → List Txt → Option (aK × Rdr)) i (o : List Txt) => g i o) (z := fun _ _ => none) (rd := fun next => wQ N w q (12 + q.1) 0 0 next) (fun i o => mdL (50 + i) o ∧ i ≤ o.length) (fun g i o hi hv on => ?_) (fun g o hv => ?_) (N := N) (st := w.2.2.2.2.2) (by omega) ⟨hw.2.2.2, by omega⟩
  ·have hl := hv.1.1
   unfold wQ
   simp only [wrS (i := i) (by omega)]
   rw [wr (n := 10 + (i : Int)) (by omega) (by omega)]
   exact rf (fun _ => (axN (by omega) (by omega)).ob fun t ht => gIf (by omega) (gIf (by omega) (on _ ⟨hv.1.add (by unfold mdT; simp; omega), by simp; omega⟩))) fun _ => .some ⟨hq.2.2.mono (by omega), hw.1, hw100.2.1, hw100.2.2.1, hv.1.mono (by omega)⟩
  ·unfold wQ
   have := hv.2
   exact yS (by omega) (.some ⟨hq.2.2.mono (by omega), hw.1, hw100.2.1, hw100.2.2.1, hv.1.mono (by omega)⟩)
theorem afN {N : Nat} (hN : lim < N) {b : af} (hb : mdB b) {c : Int} {r : Rdr} (hr : rdG c r) (hc : c ≤ 999999940000) (number : Int) : dL (aiD N r b number) fun q => rdG (c + 4) q.2 ∧ -1 ≤ q.1 ∧ q.1 ≤ 1002 := by
 have hlim := aY
 have last : ∀ {most : Int}, -1 ≤ most → most ≤ 1001 → dL (ob (gK N r (IntKind.i64.wrap (most + 2))) (Int.ofNat 0, [], Int.ofNat 0) fun r_2 => ob (gK N r_2.2 2) (Int.ofNat 0, [], Int.ofNat 0) fun r_3 => ob (gK N r_3.2 2) (Int.ofNat 0, [], Int.ofNat 0) fun r_4 => ob (gK N r_4.2 2) (Int.ofNat 0, [], Int.ofNat 0) fun r_5 => some (IntKind.i64.wrap (r_2.1 - IntKind.i64.wrap (IntKind.i64.wrap (r_3.1 * r_4.1) * r_5.1)), r_5.2)) fun q => rdG (c + 4) q.2 ∧ -1 ≤ q.1 ∧ q.1 ≤ 1002 := fun {most} h0 h1 => by
  rw [wr (by omega) (by omega)]
  refine (fK hr (by omega) (by omega)).ob fun a ha => (fK ha.2.2 (by omega) (by omega)).ob fun b hb => (fK hb.2.2 (by omega) (by omega)).ob fun d hd => (fK hd.2.2 (by omega) (by omega)).ob fun e he => .some ⟨he.2.2.mono (by omega), ?_⟩
  have h2 : 0 ≤ b.1 * d.1 ∧ b.1 * d.1 ≤ 1 := by
   rcases (by omega : b.1 = 0 ∨ b.1 = 1) with h | h <;> rw [h] <;> omega
  have h3 : 0 ≤ b.1 * d.1 * e.1 ∧ b.1 * d.1 * e.1 ≤ 1 := by
   rcases (by omega : e.1 = 0 ∨ e.1 = 1) with h | h <;> rw [h] <;> omega
  simp only [wr (n := b.1 * d.1) (by omega) (by omega), wr (n := b.1 * d.1 * e.1) (by omega) (by omega), wr (n := a.1 - b.1 * d.1 * e.1) (by omega) (by omega)]
  omega
 unfold aiD alF
 rw [au (Q_ hN hb.sm number)]
 refine jU (cu b number).1.2.2.2.1.length (fun (g : Int → Int → Option (Int × Rdr)) i (m : Int) => g m i) (z := fun _ _ => none) (rd := fun next => Hy N r b (bM b number) next) (fun i m => -1 ≤ m ∧ m ≤ 1001) (fun g i m hi hv on => ?_) (fun g m hv => ?_) (N := N) (st := 3) ?_ (by omega)
 ·unfold Hy
  refine rf (fun h => ?_) fun _ => last hv.1 hv.2
  have hlt := lL h
  have hpx : mdW 100 (cu b number).1 := hb.2.2.2.1.2 _ (uS h)
  rw [show b.2.2.2.1.getD (Int.toNat (bM b number)) bU = cu b number from rfl]
  have hmu := hpx.2.1.2 _ (List.getElem_mem hi)
  have := hpx.2.1.1
  simp only [wrS (i := i) (by omega), gAt hi]
  exact gIf h (gIf hlt (gIf (by omega) (gIf h (gIf hlt (gIf (by omega) (gIf (by omega) (gBy (fun _ => rf (fun _ => on _ hmu.2) fun _ => gBy (fun _ => on _ hmu.2) fun _ => on _ hv) fun _ => on _ hv)))))))
 ·unfold Hy
  refine rf (fun h => ?_) fun _ => last hv.1 hv.2
  have hlt := lL h
  rw [show b.2.2.2.1.getD (Int.toNat (bM b number)) bU = cu b number from rfl]
  exact gIf h (gIf hlt (yS (by omega) (last hv.1 hv.2)))
 ·by_cases h : 0 ≤ bM b number
  ·have hpx : mdW 100 (cu b number).1 := hb.2.2.2.1.2 _ (uS h)
   have := hpx.2.1.1
   omega
  ·have : cu b number = b.2.2.2.1.getD 0 bU := by unfold cu; rw [show (bM b number).toNat = 0 by omega]
   rw [this]
   have := Jc (l := b.2.2.2.1) (i := 0) (d := bU) (P := fun p => p.1.2.2.2.1.length ≤ 100) (fun p hp => (hb.2.2.2.1.2 p hp).2.1.1) (by simp)
   omega
theorem avl {n : Nat} : mdW n (0, 0, [], [], [], []) := ⟨⟨by simp, by simp⟩, ⟨by simp, by simp⟩, ⟨by simp, by simp⟩, ⟨by simp, by simp⟩⟩
def awf (d : Do) : Prop := mdW 100 d.1 ∧ -1 ≤ d.2.2.2.1 ∧ d.2.2.2.1 ≤ 1002
theorem awW {N : Nat} (hN : lim < N) {b : af} (hb : mdB b) (hp50 : ∀ p ∈ b.2.2.2.1, mdW 100 p.1) {c : Int} {r : Rdr} (hr : rdG c r) (hc : c ≤ 999999930000) : dL (Ti N r b) fun q => rdG (c + 1200) q.2 ∧ awf q.1 := by
 have hs := hb.2.2.2.2
 have z : ∀ {a x y : Int} {e : Bool}, -1 ≤ y → y ≤ 1002 → awf ((0, 0, [], [], [], []), a, x, y, e) := fun h1 h2 => ⟨avl, h1, h2⟩
 unfold Ti
 refine (fK hr (by omega) (by omega)).ob fun p hp => gBy (fun _ => ?_) fun _ => gBy (fun _ => ?_) fun _ => gBy (fun _ => ?_) fun _ => gBy (fun _ => ?_) fun _ => ?_
 ·exact (auO hp.2.2 (by omega) b).ob fun q hq => .some ⟨hq.mono (by omega), z (by omega) (by omega)⟩
 ·exact (auO hp.2.2 (by omega) b).ob fun q hq => .some ⟨hq.mono (by omega), z (by omega) (by omega)⟩
 ·exact (auO hp.2.2 (by omega) b).ob fun q hq => (afN hN hb hq (by omega) _).ob fun m hm => (fK hm.1 (by omega) (by omega)).ob fun e he => .some ⟨he.2.2.mono (by omega), z hm.2.1 hm.2.2⟩
 ·exact (auO hp.2.2 (by omega) b).ob fun q hq => (afN hN hb hq (by omega) _).ob fun m hm => (fK hm.1 (by omega) (by omega)).ob fun e he => .some ⟨he.2.2.mono (by omega), z hm.2.1 hm.2.2⟩
 ·refine (fK hp.2.2 (by omega) (by omega)).ob fun q hq => (arh hN hb hq.2.2 (by omega) _).ob fun w hw => (fK hw.1 (by omega) (by omega)).ob fun k hk => ?_
  have hw100 := hw.2.mono (show 50 ≤ 100 by omega)
  refine gBy (fun _ => ?_) fun _ => gBy (fun _ => ?_) fun _ => gBy (fun _ => rf (fun h => ?_) fun _ => ?_) fun _ => ?_
  ·exact (aye hk.2.2 (by omega) _).ob fun n hn => .some ⟨hn.2.2.mono (by omega), hw100, (by decide : (-1 : Int) ≤ 0), (by decide : (0 : Int) ≤ 1002)⟩
  ·exact (NZ hN hw.2 hk.2.2 (by omega)).ob fun n hn => .some ⟨hn.1.mono (by omega), hn.2, (by decide : (-1 : Int) ≤ 0), (by decide : (0 : Int) ≤ 1002)⟩
  ·refine (fK hk.2.2 (by omega) (show (1 : Int) ≤ (b.2.2.2.1.length : Int) by omega)).ob fun n hn => gIf hn.1 (gIf hn.2.1 ?_)
   have hm := hp50 _ (j_ (show n.1.toNat < b.2.2.2.1.length by omega) bU)
   rw [au (Ll (hm.sm (by omega)))]
   exact .some ⟨hn.2.2.mono (by omega), hm, (by decide : (-1 : Int) ≤ 0), (by decide : (0 : Int) ≤ 1002)⟩
  ·exact .some ⟨hk.2.2.mono (by omega), hw100, (by decide : (-1 : Int) ≤ 0), (by decide : (0 : Int) ≤ 1002)⟩
  ·exact .some ⟨hk.2.2.mono (by omega), hw100, (by decide : (-1 : Int) ≤ 0), (by decide : (0 : Int) ≤ 1002)⟩
def zh (b : af) (d : Do) : af := bif decide (d.2.1 > 0) then (oN b d.2.1).1 else bif decide (d.2.2.1 > 0) then (mr b d.2.2.1 d.2.2.2.1 d.2.2.2.2).1 else (jL b d.1).1
theorem awU {N : Nat} (hN : lim < N) {b : af} (hb : smB b) {d : Do} (hd : smW d.1) : Wp N b d = some (zh b d) := by
 unfold Wp zh
 cases decide (d.2.1 > 0) with
 | true => simp only [cond_true, cond_false, au (acB hN hb _)]
 | false =>
  cases decide (d.2.2.1 > 0) with
  | true => simp only [cond_true, cond_false, au (Sl hN hb _ _ _)]
  | false => simp only [cond_true, cond_false, au (Bi hN hb hd)]
theorem asj {b : af} (h : bf b = true) (d : Do) : bf (zh b d) = true := by
 unfold zh
 cases decide (d.2.1 > 0) with
 | true => exact ahq h
 | false =>
  cases decide (d.2.2.1 > 0) with
  | true => exact X6 h
  | false => exact H6 h
theorem ayC {m i : Nat} (hm : m ≤ 1000000) (hi : i < m) : IntKind.i64.wrap (((m - i : Nat) : Int) - 1) = ((m - (i + 1) : Nat) : Int) := by
 rw [wr (by omega) (by omega)]; omega
theorem aom {code : List Int} (h : Fit (.slice (.int .u8)) code) : ∀ x ∈ code, 0 ≤ x ∧ x ≤ 255 := fun x hx => by
 have : IntKind.has .u8 x := h.2 x hx
 have h2 : IntKind.min .u8 ≤ x ∧ x ≤ IntKind.max .u8 := this
 have e1 : IntKind.min .u8 = 0 := rfl
 have e2 : IntKind.max .u8 = 255 := by decide
 omega
theorem atf {code : List Int} (h : ∀ x ∈ code, 0 ≤ x ∧ x ≤ 255) : rdG 0 (List.drop (Int.toNat 0) (List.take (Int.toNat 2000) code), 0) := by
 refine ⟨?_, fun x hx => h x (List.mem_of_mem_take (List.mem_of_mem_drop hx)), Int.le_refl 0, Int.le_refl 0⟩
 simp only [List.length_drop, List.length_take]
 have : Int.toNat 2000 = 2000 := rfl
 omega
theorem aq8 {code : List Int} (h : ∀ x ∈ code, 0 ≤ x ∧ x ≤ 255) (hl : ¬ (code.length : Int) > 2000) : rdG 0 (code, 0) := ⟨by show code.length ≤ 2000; omega, h, Int.le_refl 0, Int.le_refl 0⟩
end Go.MC
namespace Go.MC
open Go.MC.F
theorem atF {N : Nat} {c : Int} {r : Rdr} (hr : rdG c r) (hc : c ≤ 999999999000) (b : af) : dL (aiK N r b) fun q => (q.1 ∈ b.2.2.1 ∨ q.1.length ≤ 2) ∧ rdG (c + 2) q.2 := by
 have last : ∀ {c' : Int} {r' : Rdr}, rdG c' r' → c' ≤ c + 1 → dL (ob (BG N r' [[], [122, 122], [97]]) ([], [], Int.ofNat 0) fun q => some q) fun q => (q.1 ∈ b.2.2.1 ∨ q.1.length ≤ 2) ∧ rdG (c + 2) q.2 := fun {c' r'} h hc' =>
  (ab5 h (by omega) (by decide)).ob fun q hq => .some ⟨.inr (by
   have := hq.1
   simp only [List.mem_cons, List.not_mem_nil, or_false] at this
   rcases this with e | e | e <;> rw [e] <;> decide), hq.2.mono (by omega)⟩
 unfold aiK anJ
 refine rf (fun h => ?_) fun _ => last hr (by omega)
 refine (fK hr (by omega) (by omega)).ob fun k hk => rf (fun _ => ?_) fun _ => last hk.2.2 (by omega)
 exact (fK hk.2.2 (by omega) (show (1 : Int) ≤ (b.2.2.1.length : Int) by omega)).ob fun j hj => gIf hj.1 (gIf hj.2.1 (.some ⟨.inl (j_ (by omega) _), hj.2.2.mono (by omega)⟩))
end Go.MC
namespace Go.MC
def xW (c : UInt8) : List UInt8 → List UInt8 → List (List UInt8)
 | acc, [] => [acc]
 | acc, b :: s => if b = c then acc :: xW c [] s else xW c (acc ++ [b]) s
def fJ (c : UInt8) (s : List UInt8) : List (List UInt8) := xW c [] s
theorem AQ {c : UInt8} : ∀ {s : List UInt8} (acc : List UInt8), c ∉ s → xW c acc s = [acc ++ s]
 | [], acc, _ => by simp [xW]
 | b :: s, acc, h => by
  have h1 : b ≠ c := fun e => h (by simp [e])
  have h2 : c ∉ s := fun m => h (by simp [m])
  rw [xW, if_neg h1, AQ _ h2, List.append_assoc]; rfl
theorem H8 {c : UInt8} : ∀ {a : List UInt8} (acc t : List UInt8), c ∉ a → xW c acc (a ++ c :: t) = (acc ++ a) :: fJ c t
 | [], acc, t, _ => by simp [xW, fJ]
 | b :: a, acc, t, h => by
  have h1 : b ≠ c := fun e => h (by simp [e])
  have h2 : c ∉ a := fun m => h (by simp [m])
  rw [List.cons_append, xW, if_neg h1, H8 _ _ h2, List.append_assoc]; rfl
theorem aes {c : UInt8} {s : List UInt8} (h : c ∉ s) : Lib.index s [c] = -1 := by
 refine Lib.index_none fun j hj => ?_
 cases hb : Lib.occAt s [c] j with
 | false => rfl
 | true => exact absurd (List.mem_of_getElem? (Lib.occAt_head rfl hb)) h
theorem Xc {c : UInt8} {a t : List UInt8} (h : c ∉ a) : Lib.index (a ++ c :: t) [c] = (a.length : Int) := by
 refine Lib.index_first (by simp) ?_ fun j hj => ?_
 ·unfold Lib.occAt
  rw [List.drop_left]
  simp [List.isPrefixOf]
 ·cases hb : Lib.occAt (a ++ c :: t) [c] j with
  | false => rfl
  | true =>
   have h1 := Lib.occAt_head rfl hb
   rw [List.getElem?_append_left hj] at h1
   exact absurd (List.mem_of_getElem? h1) h
theorem ad7 (c : UInt8) : ∀ (n : Nat) (s : List UInt8), s.length ≤ n → Lib.split s [c] = fJ c s := by
 intro n
 induction n with
 | zero =>
  intro s h
  have : s = [] := List.length_eq_zero_iff.1 (by omega)
  subst this
  rfl
 | succ n ih =>
  intro s h
  by_cases hc : c ∈ s
  ·obtain ⟨a, t, rfl, ha⟩ := List.eq_append_cons_of_mem hc
   have hi := Xc (t := t) ha
   have hd : (a ++ c :: t).drop (a.length + 1) = t := by rw [List.drop_append]; simp
   unfold Lib.split
   rw [Lib.count_hit (by simp) hi, Nat.add_comm 1]
   unfold Lib.splitK
   have hne : ¬ (Lib.index (a ++ c :: t) [c] == -1) = true := by rw [hi]; intro e; have := beq_iff_eq.1 e; omega
   rw [if_neg hne, hi]
   have e1 : (a.length : Int).toNat = a.length := rfl
   rw [e1]
   show (a ++ c :: t).take (a.length + 0) :: Lib.splitK [c] 0 (Lib.count ((a ++ c :: t).drop (a.length + 1)) [c]) ((a ++ c :: t).drop (a.length + 1)) = _
   rw [hd, Nat.add_zero, List.take_left, show fJ c (a ++ c :: t) = a :: fJ c t from H8 [] t ha]
   congr 1
   exact ih t (by simp at h; omega)
  ·unfold Lib.split
   rw [Lib.count_miss (aes hc)]
   exact (AQ [] hc).symm
theorem apg (c : UInt8) (s : List UInt8) : Lib.split s [c] = fJ c s := ad7 c _ s (Nat.le_refl _)
theorem jV (c : UInt8) : ∀ (n : Nat) (s : List UInt8), s.length ≤ n → (fJ c s).length = s.count c + 1 := by
 intro n
 induction n with
 | zero =>
  intro s h
  have : s = [] := List.length_eq_zero_iff.1 (by omega)
  subst this
  rfl
 | succ n ih =>
  intro s h
  by_cases hc : c ∈ s
  ·obtain ⟨a, t, rfl, ha⟩ := List.eq_append_cons_of_mem hc
   rw [show fJ c (a ++ c :: t) = a :: fJ c t from H8 [] t ha, List.length_cons, ih t (by simp at h; omega), List.count_append, List.count_eq_zero_of_not_mem ha, List.count_cons_self]
   omega
  ·rw [show fJ c s = [s] from AQ [] hc, List.count_eq_zero_of_not_mem hc]; rfl
theorem ahX {c : UInt8} {s : List UInt8} (h : s.count c = 1) : fJ c s = [(Lib.cut s [c]).1, (Lib.cut s [c]).2.1] := by
 have hc : c ∈ s := List.count_pos_iff.1 (by omega)
 obtain ⟨a, t, rfl, ha⟩ := List.eq_append_cons_of_mem hc
 have ht : c ∉ t := by
  rw [List.count_append, List.count_eq_zero_of_not_mem ha, List.count_cons_self] at h
  exact List.count_eq_zero.1 (by omega)
 have hi := Xc (t := t) ha
 have hd : (a ++ c :: t).drop (a.length + 1) = t := by rw [List.drop_append]; simp
 rw [show fJ c (a ++ c :: t) = a :: fJ c t from H8 [] t ha, show fJ c t = [t] from AQ [] ht]
 unfold Lib.cut
 rw [hi, if_pos (by omega)]
 show [a, t] = [(a ++ c :: t).take a.length, (a ++ c :: t).drop (a.length + 1)]
 rw [hd, List.take_left]
theorem Tv {c : UInt8} : ∀ {s acc : List UInt8} {x : List UInt8}, x ∈ xW c acc s → x.length ≤ acc.length + s.length
 | [], acc, x, h => by
  simp only [xW, List.mem_singleton] at h
  rw [h]; simp
 | b :: s, acc, x, h => by
  unfold xW at h
  split at h
  ·rcases List.mem_cons.1 h with rfl | h
   ·simp
   ·have := Tv h
    simp at this ⊢; omega
  ·have := Tv h
   simp at this ⊢; omega
theorem yT {c : UInt8} {s x : List UInt8} (h : x ∈ fJ c s) : x.length ≤ s.length := by
 have := Tv h
 simpa using this
theorem TM {c : UInt8} : ∀ (s acc : List UInt8), (xW c acc s).length ≤ s.length + 1
 | [], acc => by simp [xW]
 | b :: s, acc => by
  unfold xW
  split
  ·have := TM (c := c) s []
   simp; omega
  ·have := TM (c := c) s (acc ++ [b])
   simp; omega
theorem Q5 (c : UInt8) (s : List UInt8) : (fJ c s).length ≤ s.length + 1 := TM s []
def Oo (b : UInt8) : Bool := decide (48 ≤ b.toNat) && decide (b.toNat ≤ 57)
def Y5 (n : Nat) (s : List UInt8) : Nat := s.foldl (fun n b => n * 10 + (b.toNat - 48)) n
def qL (s : List UInt8) : Int := bif (decide (1 ≤ s.length) && decide (s.length ≤ 7)) && (!(decide (1 < s.length) && s.headD 0 == 48) && s.all Oo) then ((Y5 0 s : Nat) : Int) else -1
theorem NM : ∀ (s : List UInt8) (n : Nat), s.all Oo = true → Lib.decFrom n s = some (Y5 n s)
 | [], n, _ => rfl
 | b :: s, n, h => by
  simp only [List.all_cons, Bool.and_eq_true] at h
  have h1 := h.1
  unfold Oo at h1
  simp only [Bool.and_eq_true, decide_eq_true_eq] at h1
  unfold Lib.decFrom
  rw [show Lib.digitVal b = some (b.toNat - 48) from if_pos h1]
  exact NM s _ h.2
theorem ape {s : List UInt8} (hn : s ≠ []) (h : s.all Oo = true) : Lib.atoi s = some ((Y5 0 s : Nat) : Int) := by
 cases s with
 | nil => exact absurd rfl hn
 | cons b r =>
  have hb : Oo b = true := by simp only [List.all_cons, Bool.and_eq_true] at h; exact h.1
  have h45 : ¬ (b == 45) = true := fun e => by rw [beq_iff_eq.1 e] at hb; revert hb; decide
  have h43 : ¬ (b == 43) = true := fun e => by rw [beq_iff_eq.1 e] at hb; revert hb; decide
  show (if b == 45 then _ else if b == 43 then _ else (Lib.decNat (b :: r)).map fun (m : Nat) => (m : Int)) = _
  rw [if_neg h45, if_neg h43]
  have hd : Lib.decNat (b :: r) = some (Y5 0 (b :: r)) := NM _ _ h
  rw [hd]
  rfl
def eX (s : List UInt8) : List (List UInt8) := bif s == [45] then [] else fJ 44 s
def Fe (l : List (List UInt8)) : List UInt8 := bif l.isEmpty then [45] else Lib.join l [44]
end Go.MC
namespace Go.MC
open Go.MC.F
theorem dle {i j : Nat} (h : i ≤ j) : decide ((i : Int) ≤ (j : Int)) = true := decide_eq_true (by omega)
theorem an9 {a c : UInt8} {k : Int} (hk : k = (c.toNat : Int)) : ((a.toNat : Int) == k) = decide (a = c) := by
 subst hk
 by_cases h : a = c
 ·subst h; simp
 ·rw [decide_eq_false h, beq_eq_false_iff_ne]
  intro e
  exact h (UInt8.toNat_inj.1 (by omega))
theorem adi {N : Nat} {s : Txt} {c : UInt8} {k : Int} (hk : k = (c.toNat : Int)) (hs : s.length ≤ 1048576) : ∀ (d n i frm : Nat) (out : List Txt), i + d = s.length → d < n → frm ≤ i → out.length ≤ i →
 Bv N s k n (frm : Int) (i : Int) out = some (out ++ xW c ((s.take i).drop frm) (s.drop i)) := by
 have hlim := aY
 intro d
 induction d with
 | zero =>
  intro n i frm out h1 h2 h3 h4
  obtain ⟨n, rfl⟩ : ∃ j, n = j + 1 := ⟨n - 1, by omega⟩
  show uX N s k (Bv N s k n) (frm : Int) (i : Int) out = _
  have hi : i = s.length := by omega
  subst hi
  unfold uX
  simp only [d_, dge, dle h3, dle (Nat.le_refl _), decide_eq_true (show (out.length + 1) * 16 ≤ lim by omega), cond_true, cond_false, Int.toNat_natCast, List.take_length, List.drop_length, xW]
 | succ d ih =>
  intro n i frm out h1 h2 h3 h4
  obtain ⟨n, rfl⟩ : ∃ j, n = j + 1 := ⟨n - 1, by omega⟩
  show uX N s k (Bv N s k n) (frm : Int) (i : Int) out = _
  have hi : i < s.length := by omega
  have hw := wrS (i := i) (by omega)
  unfold uX
  simp only [dlt hi, dge, dle h3, dle (Nat.le_of_lt hi), decide_eq_true (show (out.length + 1) * 16 ≤ lim by omega), cond_true, cond_false, Int.toNat_natCast, hw, gAt hi, an9 hk]
  rw [List.drop_eq_getElem_cons hi, xW]
  have hg : s.getD i 0 = s[i] := h_ hi 0
  rw [hg]
  by_cases hc : s[i] = c
  ·rw [if_pos hc, decide_eq_true hc]
   simp only [cond_true]
   rw [ih n (i + 1) (i + 1) _ (by omega) (by omega) (Nat.le_refl _) (by simp; omega)]
   have e0 : (s.take (i + 1)).drop (i + 1) = [] := List.drop_of_length_le (by rw [List.length_take]; omega)
   rw [e0, List.append_assoc]
   rfl
  ·rw [if_neg hc, decide_eq_false hc]
   simp only [cond_false]
   rw [ih n (i + 1) frm out (by omega) (by omega) (by omega) (by omega)]
   congr 3
   rw [List.take_succ_eq_append_getElem hi, List.drop_append_of_le_length (by rw [List.length_take]; omega)]
theorem aaW {N : Nat} (hN : lim < N) {s : Txt} (hs : s.length ≤ 1048576) {c : UInt8} {k : Int} (hk : k = (c.toNat : Int)) : Oa N s k = some (fJ c s) := by
 have hlim := aY
 have := adi (N := N) hk hs s.length N 0 0 [] (by omega) (by omega) (Nat.le_refl _) (by simp)
 exact this
theorem KL {N : Nat} {s : Txt} (hs : s.length ≤ 1048576) (c : UInt8) : strings_Split N s [c] = some (fJ c s) := by
 unfold strings_Split
 rw [← apg]
 simp only [decide_eq_true (show s.length < 4294967281 by omega), cond_true]
theorem wR {N : Nat} (hN : lim < N) {s : Txt} (hs : s.length ≤ 1048576) : Sm N s = some (eX s) := by
 unfold Sm eX
 rw [au (aaW hN hs (c := 44) (k := 44) rfl)]
 cases s == [45] <;> rfl
theorem kP {N : Nat} {s : Txt} (hs : s.length ≤ 1048576) : rJ N s = some (eX s) := by
 unfold rJ eX
 rw [au (KL hs 44)]
 cases s == [45] <;> rfl
theorem ayA (b : UInt8) : Oo b = (!decide ((b.toNat : Int) < 48) && !decide ((b.toNat : Int) > 57)) := by
 unfold Oo
 rw [Bool.eq_iff_iff]
 simp only [Bool.and_eq_true, decide_eq_true_eq, Bool.not_eq_true', decide_eq_false_iff_not]
 omega
theorem UV {N : Nat} {s : Txt} (hs : s.length ≤ 7) : ∀ (d n i v : Nat), i + d = s.length → d < n → v < 10 ^ i → Dx N s n (v : Int) (i : Int) = some (bif (s.drop i).all Oo then ((Y5 v (s.drop i) : Nat) : Int) else -1) := by
 have hlim := aY
 intro d
 induction d with
 | zero =>
  intro n i v h1 h2 h3
  obtain ⟨n, rfl⟩ : ∃ j, n = j + 1 := ⟨n - 1, by omega⟩
  show Bz N s (Dx N s n) (v : Int) (i : Int) = _
  have hi : i = s.length := by omega
  subst hi
  unfold Bz
  simp only [d_, cond_false, List.drop_length, List.all_nil, cond_true, Y5, List.foldl_nil]
 | succ d ih =>
  intro n i v h1 h2 h3
  obtain ⟨n, rfl⟩ : ∃ j, n = j + 1 := ⟨n - 1, by omega⟩
  show Bz N s (Dx N s n) (v : Int) (i : Int) = _
  have hi : i < s.length := by omega
  have hv : v < 10000000 := Nat.lt_of_lt_of_le h3 (Nat.pow_le_pow_right (by decide) (show i ≤ 7 by omega))
  have hb : s[i].toNat < 256 := UInt8.toNat_lt _
  unfold Bz
  simp only [dlt hi, dge, cond_true, gAt hi]
  rw [List.drop_eq_getElem_cons hi, List.all_cons, ayA]
  by_cases hlo : (s[i].toNat : Int) < 48
  ·rw [decide_eq_true hlo]; rfl
  ·rw [decide_eq_false hlo]
   by_cases hhi : (s[i].toNat : Int) > 57
   ·rw [decide_eq_true hhi]; rfl
   ·rw [decide_eq_false hhi]
    simp only [cond_false, Bool.not_false, Bool.true_and, Bool.and_true]
    have e : IntKind.i64.wrap (IntKind.i64.wrap (IntKind.i64.wrap ((v : Int) * 10) + IntKind.i64.wrap (s[i].toNat : Int)) - 48) = ((v * 10 + (s[i].toNat - 48) : Nat) : Int) := by
     rw [wr (n := (v : Int) * 10) (by omega) (by omega), wr (n := (s[i].toNat : Int)) (by omega) (by omega), wr (n := (v : Int) * 10 + (s[i].toNat : Int)) (by omega) (by omega), wr (by omega) (by omega)]
     omega
    rw [e, wrS (i := i) (by omega)]
    have h10 : v * 10 + (s[i].toNat - 48) < 10 ^ (i + 1) := by rw [Nat.pow_succ]; omega
    exact ih n (i + 1) _ (by omega) (by omega) h10
theorem aaH (s : Txt) : s.getD 0 0 = s.headD 0 := by cases s <;> rfl
theorem b48 (b : UInt8) : ((b.toNat : Int) == 48) = (b == 48) := by
 rw [an9 (c := 48) (k := 48) rfl]
 rfl
theorem jY {N : Nat} (hN : lim < N) (s : Txt) : zX N s = some (qL s) := by
 have hlim := aY
 unfold zX ao_ qL
 rw [au (UM _ _ _)]
 have e1 : inB (s.length : Int) 1 7 = (decide (1 ≤ s.length) && decide (s.length ≤ 7)) := by
  unfold inB
  rw [Bool.eq_iff_iff]
  simp only [Bool.and_eq_true, decide_eq_true_eq]
  omega
 rw [e1]
 cases hb : (decide (1 ≤ s.length) && decide (s.length ≤ 7)) with
 | false => rfl
 | true =>
  simp only [Bool.and_eq_true, decide_eq_true_eq] at hb
  have hl := UV (N := N) hb.2 s.length N 0 0 (by omega) (by omega) (by decide)
  rw [List.drop_zero] at hl
  have hl : Dx N s N 0 0 = some (bif s.all Oo then ((Y5 0 s : Nat) : Int) else -1) := hl
  simp only [Bool.not_true, cond_false, Bool.true_and]
  by_cases h1 : 1 < s.length
  ·rw [decide_eq_true (show ((s.length : Int) > 1) by omega), decide_eq_true h1, decide_eq_true (show (0 : Int) < (s.length : Int) by omega)]
   simp only [cond_true, Bool.true_and]
   rw [show s.getD (Int.toNat 0) 0 = s.headD 0 from aaH s, b48, hl]
   cases s.headD 0 == 48 <;> rfl
  ·rw [decide_eq_false (show ¬ ((s.length : Int) > 1) by omega), decide_eq_false h1]
   simp only [cond_false, Bool.false_and, Bool.not_false, Bool.true_and]
   rw [hl]
theorem iP {N : Nat} (hN : lim < N) (s : Txt) : BD N s = some (qL s) := by
 have hlim := aY
 unfold BD ak_ qL
 rw [au (zi _ _ _)]
 have e1 : inB (s.length : Int) 1 7 = (decide (1 ≤ s.length) && decide (s.length ≤ 7)) := by
  unfold inB
  rw [Bool.eq_iff_iff]
  simp only [Bool.and_eq_true, decide_eq_true_eq]
  omega
 rw [e1]
 cases hb : (decide (1 ≤ s.length) && decide (s.length ≤ 7)) with
 | false => rfl
 | true =>
  simp only [Bool.and_eq_true, decide_eq_true_eq] at hb
  have hl : YB N s N 0 = some (bif s.all Oo then ((Y5 0 s : Nat) : Int) else -1) := by
   refine (dQ s _ (fun _ x => Oo x) (some (-1)) (ob (strconv_Atoi N s) (Int.ofNat 0) fun r_1 => some r_1) (fun g i hi => ?_) (fun g => ?_) N (by omega)).trans ?_
   ·unfold PE
    simp only [dlt hi, dge, cond_true, gAt hi, wrS (i := i) (by omega), ayA]
    cases decide ((s[i].toNat : Int) < 48) <;> cases decide ((s[i].toNat : Int) > 57) <;> rfl
   ·unfold PE
    rw [d_]; rfl
   ·rw [fU]
    cases ha : s.all Oo with
    | false => rfl
    | true =>
     have hA : strconv_Atoi N s = some ((Y5 0 s : Nat) : Int) := by
      unfold strconv_Atoi
      rw [decide_eq_true (show s.length ≤ 18 by omega), cond_true]
      exact ape (fun e => by rw [e] at hb; simp at hb) ha
     rw [au hA]
     rfl
  simp only [Bool.not_true, cond_false, Bool.true_and]
  by_cases h1 : 1 < s.length
  ·rw [decide_eq_true (show ((s.length : Int) > 1) by omega), decide_eq_true h1, decide_eq_true (show (0 : Int) < (s.length : Int) by omega)]
   simp only [cond_true, Bool.true_and]
   rw [show s.getD (Int.toNat 0) 0 = s.headD 0 from aaH s, b48, hl]
   cases s.headD 0 == 48 <;> rfl
  ·rw [decide_eq_false (show ¬ ((s.length : Int) > 1) by omega), decide_eq_false h1]
   simp only [cond_false, Bool.false_and, Bool.not_false, Bool.true_and]
   rw [hl]
end Go.MC
namespace Go.MC
open Go.MC.F
theorem OO {α β ρ : Type} {l : List α} {rd : (Int → List β → Option ρ) → Int → List β → Option ρ} (f : α → β) (fin : List β → Option ρ)
 (hstep : ∀ (g : Int → List β → Option ρ) (i : Nat) (out : List β) (h : i < l.length), out.length ≤ i → rd g (i : Int) out = g ((i + 1 : Nat) : Int) (out ++ [f l[i]]))
 (hend : ∀ (g : Int → List β → Option ρ) (out : List β), rd g (l.length : Int) out = fin out) {N : Nat} (hN : l.length < N) : lp (fun _ _ => none) rd N 0 [] = fin (l.map f) := by
 have := iT l (fun (g : Int → List β → Option ρ) i (d : List β) => g (i : Int) d) (fun _ _ => none) rd (fun i d x => .inl (d ++ [f x])) fin (fun i d => d.length ≤ i)
  (fun g i st h hi => ⟨hstep g i st h hi, fun st' hs => by cases hs; simp; omega⟩) (fun g d hd => hend g d) N hN [] (by simp)
 refine this.trans ?_
 have : ∀ (l : List α) i (d : List β), mP fin (gJ (fun i (d : List β) x => (Sum.inl (d ++ [f x]) : List β ⊕ Option ρ)) i l d) = fin (d ++ l.map f) := by
  intro l
  induction l with
  | nil => intro i d; simp [gJ, mP]
  | cons x xs ih =>
   intro i d
   simp only [gJ]
   rw [ih (i + 1) (d ++ [f x])]
   simp
 simpa using this l 0 []
def afq (x : Txt) : Use := bif x.count 60 == 1 then ((Lib.cut x [60]).1, 1, qL (Lib.cut x [60]).2.1) else bif x.count 62 == 1 then ((Lib.cut x [62]).1, 2, qL (Lib.cut x [62]).2.1) else (x, 3, 0)
def BQ (s : Txt) : List Use := (eX s).map afq
theorem wV (s : Txt) : (eX s).length ≤ s.length + 1 := by
 unfold eX
 cases s == [45] with
 | true => simp
 | false => exact Q5 44 s
theorem xg {s x : Txt} (h : x ∈ eX s) : x.length ≤ s.length := by
 unfold eX at h
 cases hb : s == [45] with
 | true => rw [hb] at h; simp at h
 | false => rw [hb] at h; exact yT h
theorem ayK (c : UInt8) (x : Txt) : (((fJ c x).length : Int) == 2) = (x.count c == 1) := by
 rw [jV c _ x (Nat.le_refl _), Bool.eq_iff_iff, beq_iff_eq, beq_iff_eq]
 omega
theorem axF {N : Nat} (hN : lim < N) {s : Txt} (hs : s.length ≤ 1000000) : abo N s = some (BQ s) := by
 have hlim := aY
 have hl := wV s
 unfold abo aeL
 rw [au (wR hN (by omega))]
 refine OO (l := eX s) afq some (fun g i out hi ho => ?_) (fun g out => ?_) (by omega)
 ·have hx : (eX s)[i].length ≤ 1048576 := Nat.le_trans (xg (List.getElem_mem hi)) (by omega)
  have hlen := jV 60 _ (eX s)[i] (Nat.le_refl _)
  have hlen2 := jV 62 _ (eX s)[i] (Nat.le_refl _)
  unfold Je
  simp only [dlt hi, dge, cond_true, gAt hi, au (aaW hN hx (c := 60) (k := 60) rfl), au (aaW hN hx (c := 62) (k := 62) rfl), ayK, wrS (i := i) (by omega), decide_eq_true (show (out.length + 1) * 32 ≤ lim by omega)]
  unfold afq
  cases h60 : (eX s)[i].count 60 == 1 with
  | true =>
   have h1 := beq_iff_eq.1 h60
   rw [ahX h1]
   simp only [cond_true, List.length_cons, List.length_nil]
   rw [au (jY hN _)]
   rfl
  | false =>
   simp only [cond_false]
   cases h62 : (eX s)[i].count 62 == 1 with
   | true =>
    have h1 := beq_iff_eq.1 h62
    rw [ahX h1]
    simp only [cond_true, List.length_cons, List.length_nil]
    rw [au (jY hN _)]
    rfl
   | false => rfl
 ·unfold Je
  rw [d_]; rfl
theorem Xe {N : Nat} (x : Txt) (c : UInt8) : strings_Count N x [c] = some ((x.count c : Nat) : Int) := rfl
theorem afV {N : Nat} {x : Txt} (hx : x.length ≤ 1048576) (c : UInt8) : strings_Cut N x [c] = some (Lib.cut x [c]) := by
 unfold strings_Cut
 simp only [decide_eq_true (show x.length < 4294967281 by omega), cond_true]
theorem an1 (n : Nat) : ((n : Int) == 1) = (n == 1) := by
 rw [Bool.eq_iff_iff, beq_iff_eq, beq_iff_eq]; omega
theorem as6 {N : Nat} (hN : lim < N) {x : Txt} (hx : x.length ≤ 1048576) (g : Int → List Use → Option (List Use)) (r : List Txt) (t15 t16 : Int) {out : List Use} (ho : (out.length + 1) * 32 ≤ lim) :
 kZ N g r t15 t16 out x ((([[], [60], [62]] : List Txt).length : Nat) : Int) x 3 0 [[], [60], [62]] N 0 = g (IntKind.i64.wrap (t16 + 1)) (out ++ [afq x]) := by
 have hlim := aY
 obtain ⟨n, rfl⟩ : ∃ n, N = n + 4 := ⟨N - 4, by omega⟩
 have hL : ∀ (u : Use), decide ((out.length + [u].length) * 32 ≤ lim) = true := fun u => decide_eq_true (by simpa using ho)
 have e3 : (([[], [60], [62]] : List Txt).length : Int) = 3 := rfl
 rw [e3]
 have st0 : kZ (n + 4) g r t15 t16 out x 3 x 3 0 [[], [60], [62]] (n + 4) 0 = kZ (n + 4) g r t15 t16 out x 3 x 3 0 [[], [60], [62]] (n + 3) 1 := rfl
 have st1 : kZ (n + 4) g r t15 t16 out x 3 x 3 0 [[], [60], [62]] (n + 3) 1 = ob (strings_Count (n + 4) x [60]) (Int.ofNat 0) fun r_1 =>
  bif r_1 == 1 then (ob (strings_Cut (n + 4) x [60]) ([], [], false) fun r_2 => ob (BD (n + 4) r_2.2.1) (Int.ofNat 0) fun r_3 =>
   bif decide ((out.length + [((r_2.1, 1, r_3) : Use)].length) * 32 ≤ lim) then g (IntKind.i64.wrap (t16 + 1)) (out ++ [(r_2.1, 1, r_3)]) else none)
  else kZ (n + 4) g r t15 t16 out x 3 x 3 0 [[], [60], [62]] (n + 2) 2 := rfl
 have st2 : kZ (n + 4) g r t15 t16 out x 3 x 3 0 [[], [60], [62]] (n + 2) 2 = ob (strings_Count (n + 4) x [62]) (Int.ofNat 0) fun r_1 =>
  bif r_1 == 1 then (ob (strings_Cut (n + 4) x [62]) ([], [], false) fun r_2 => ob (BD (n + 4) r_2.2.1) (Int.ofNat 0) fun r_3 =>
   bif decide ((out.length + [((r_2.1, 2, r_3) : Use)].length) * 32 ≤ lim) then g (IntKind.i64.wrap (t16 + 1)) (out ++ [(r_2.1, 2, r_3)]) else none)
  else kZ (n + 4) g r t15 t16 out x 3 x 3 0 [[], [60], [62]] (n + 1) 3 := rfl
 have st3 : kZ (n + 4) g r t15 t16 out x 3 x 3 0 [[], [60], [62]] (n + 1) 3 = bif decide ((out.length + [((x, 3, 0) : Use)].length) * 32 ≤ lim) then g (IntKind.i64.wrap (t16 + 1)) (out ++ [(x, 3, 0)]) else none := rfl
 rw [st0, st1, au (Xe x 60), an1]
 unfold afq
 cases h60 : x.count 60 == 1 with
 | true =>
  simp only [cond_true]
  rw [au (afV hx 60), au (iP hN _), hL]
  rfl
 | false =>
  simp only [cond_false]
  rw [st2, au (Xe x 62), an1]
  cases h62 : x.count 62 == 1 with
  | true =>
   simp only [cond_true]
   rw [au (afV hx 62), au (iP hN _), hL]
   rfl
  | false =>
   simp only [cond_false]
   rw [st3, hL]
   rfl
theorem Uo {N : Nat} (hN : lim < N) {s : Txt} (hs : s.length ≤ 1000000) : RU N s = some (BQ s) := by
 have hlim := aY
 have hl := wV s
 unfold RU aeT
 rw [au (kP (by omega))]
 refine OO (l := eX s) afq some (fun g i out hi ho => ?_) (fun g out => ?_) (by omega)
 ·have hx : (eX s)[i].length ≤ 1048576 := Nat.le_trans (xg (List.getElem_mem hi)) (by omega)
  unfold FU
  simp only [dlt hi, dge, cond_true, gAt hi]
  refine (as6 hN hx g _ _ _ (show (out.length + 1) * 32 ≤ lim by omega)).trans ?_
  rw [wrS (i := i) (by omega)]
 ·unfold FU
  rw [d_]; rfl
theorem alp {n : Int} (h0 : 0 ≤ n) (h1 : n < 10) : List.map Af [IntKind.u8.wrap (IntKind.i64.wrap (48 + n))] = [UInt8.ofNat (48 + n.toNat)] := by
 have e : IntKind.u8.wrap (IntKind.i64.wrap (48 + n)) = 48 + n := by
  rw [wr (by omega) (by omega)]
  show (48 + n) % 256 = _
  omega
 rw [e]
 show [UInt8.ofNat (48 + n).toNat] = _
 rw [show (48 + n).toNat = 48 + n.toNat by omega]
theorem X9 : ∀ {k u : Nat}, u < 10 ^ (k + 1) → (Lib.decDigits u).length ≤ k + 1
 | 0, u, h => by rw [Lib.decDigits, dif_pos (by simpa using h)]; simp
 | k + 1, u, h => by
  rw [Lib.decDigits]
  split
  ·simp
  ·have := X9 (k := k) (u := u / 10) (by rw [Nat.pow_succ] at h; omega)
   rw [List.length_append]
   simp only [List.length_cons, List.length_nil]
   omega
theorem avK {N : Nat} : ∀ (k m u : Nat), k ≤ m → k ≤ 17 → u < 10 ^ (k + 1) → m_ N m (u : Int) = some (Lib.decDigits u)
 | k, m, u, h1, h2, h3 => by
  have hlim := aY
  have hbig : 10 ^ (k + 1) ≤ 10 ^ 18 := Nat.pow_le_pow_right (by decide) (by omega)
  have hu : u < 1000000000000000000 := Nat.lt_of_lt_of_le h3 hbig
  have hneg : decide ((u : Int) < 0) = false := decide_eq_false (by omega)
  by_cases hs : u < 10
  ·have e := alp (n := (u : Int)) (by omega) (by omega)
   rw [Lib.decDigits, dif_pos hs]
   cases m with
   | zero =>
    unfold m_
    rw [hneg, decide_eq_true (show (u : Int) < 10 by omega), e]; rfl
   | succ m =>
    unfold m_
    rw [hneg, decide_eq_true (show (u : Int) < 10 by omega), e]; rfl
  ·cases k with
   | zero => exact absurd (by simpa using h3) hs
   | succ k =>
    obtain ⟨m, rfl⟩ : ∃ j, m = j + 1 := ⟨m - 1, by omega⟩
    have hd : u / 10 < 10 ^ (k + 1) := by rw [Nat.pow_succ] at h3; omega
    have ih := avK (N := N) k m (u / 10) (by omega) (by omega) hd
    have hlen := X9 (k := k) hd
    rw [Lib.decDigits, dif_neg hs]
    unfold m_
    rw [hneg, decide_eq_false (show ¬ (u : Int) < 10 by omega)]
    have e1 : IntKind.i64.wrap ((u : Int).tdiv 10) = ((u / 10 : Nat) : Int) := by
     rw [show (u : Int).tdiv 10 = ((u / 10 : Nat) : Int) from rfl, wr (by omega) (by omega)]
    have e2 : (u : Int).tmod 10 = ((u % 10 : Nat) : Int) := rfl
    rw [e1, e2, au ih, alp (n := ((u % 10 : Nat) : Int)) (by omega) (by omega)]
    simp only [cond_false, List.length_cons, List.length_nil, Int.toNat_natCast]
    rw [decide_eq_true (show (Lib.decDigits (u / 10)).length + (0 + 1) ≤ lim by omega)]
    rfl
theorem SY {N : Nat} {n : Int} (h0 : 0 ≤ n) (h1 : n < 1000000000000000000) : jO N n = some (Lib.itoa n) := by
 obtain ⟨u, rfl⟩ := Int.eq_ofNat_of_zero_le h0
 unfold jO Lib.itoa
 rw [if_neg (by omega)]
 exact avK 17 64 u (by omega) (by omega) (by simpa using Int.ofNat_lt.1 h1)
theorem uk {N : Nat} {n : Int} (h0 : 0 ≤ n) (h1 : n < 1000000000000000000) : strconv_Itoa N n = some (Lib.itoa n) := by
 unfold strconv_Itoa
 rw [decide_eq_true (show -9223372036854775808 ≤ n by omega), decide_eq_true (show n ≤ 9223372036854775807 by omega)]
 rfl
theorem gY {n : Int} (h0 : 0 ≤ n) (h1 : n < 1000000000000000000) : (Lib.itoa n).length ≤ 18 := by
 obtain ⟨u, rfl⟩ := Int.eq_ofNat_of_zero_le h0
 unfold Lib.itoa
 rw [if_neg (by omega)]
 exact X9 (k := 17) (by simpa using Int.ofNat_lt.1 h1)
end Go.MC
namespace Go.MC
open Go.MC.F
theorem ar5 {l : List Txt} {i : Nat} (h : i < l.length) : Lib.join (l.take (i + 1)) [44] = bif decide ((i : Int) > 0) then Lib.join (l.take i) [44] ++ [44] ++ l[i] else Lib.join (l.take i) [44] ++ l[i] := by
 cases l with
 | nil => simp at h
 | cons x r =>
  cases i with
  | zero => simp [Lib.join_one, Lib.join_nil]
  | succ k =>
   have hk : k < r.length := by simpa using h
   have e : decide (((k + 1 : Nat) : Int) > 0) = true := decide_eq_true (by omega)
   rw [e, cond_true, List.take_succ_cons, List.take_succ_cons, Lib.join_cons, Lib.join_cons, Lib.joinTail_take_succ [44] r k r[k] (List.getElem?_eq_getElem hk)]
   simp
theorem QA {l : List Txt} {B : Nat} (h : ∀ x ∈ l, x.length ≤ B) : (Lib.join l [44]).length ≤ l.length * (B + 1) := by
 cases l with
 | nil => simp [Lib.join_nil]
 | cons x r =>
  have hs : ∀ (l : List Txt), (∀ x ∈ l, x.length ≤ B) → Lib.lens l ≤ l.length * B := by
   intro l
   induction l with
   | nil => intro _; simp [Lib.lens]
   | cons y l ih =>
    intro h
    have h1 := h y (by simp)
    have h2 := ih fun x hx => h x (by simp [hx])
    have e : Lib.lens (y :: l) = y.length + Lib.lens l := by simp [Lib.lens]
    rw [e, List.length_cons, Nat.add_mul]
    omega
  have := hs _ h
  rw [Lib.join_length, Nat.mul_add]
  simp only [List.length_cons, List.length_nil] at this ⊢
  omega
theorem ND {N : Nat} {l : List Txt} (hl : l.length ≤ 1000) (hx : ∀ x ∈ l, x.length ≤ 1000) : ∀ (d n i : Nat), i + d = l.length → d < n → KE N l [44] n (Lib.join (l.take i) [44]) (i : Int) = some (bif Lib.join l [44] == [] then [45] else Lib.join l [44]) := by
 have hlim := aY
 intro d
 induction d with
 | zero =>
  intro n i h1 h2
  obtain ⟨n, rfl⟩ : ∃ j, n = j + 1 := ⟨n - 1, by omega⟩
  show AA N l [44] (KE N l [44] n) (Lib.join (l.take i) [44]) (i : Int) = _
  have hi : i = l.length := by omega
  subst hi
  unfold AA
  rw [d_, cond_false, List.take_length]
  cases Lib.join l [44] == [] <;> rfl
 | succ d ih =>
  intro n i h1 h2
  obtain ⟨n, rfl⟩ : ∃ j, n = j + 1 := ⟨n - 1, by omega⟩
  show AA N l [44] (KE N l [44] n) (Lib.join (l.take i) [44]) (i : Int) = _
  have hi : i < l.length := by omega
  have hj : (Lib.join (l.take i) [44]).length ≤ 1001000 := by
   have h1 := QA (l := l.take i) (B := 1000) fun x hm => hx x (List.mem_of_mem_take hm)
   have h2 : (l.take i).length ≤ 1000 := by rw [List.length_take]; omega
   have h3 : (l.take i).length * (1000 + 1) ≤ 1000 * 1001 := Nat.mul_le_mul_right _ h2
   omega
  have hxi := hx l[i] (List.getElem_mem hi)
  have ih := ih n (i + 1) (by omega) (by omega)
  rw [ar5 hi] at ih
  unfold AA
  simp only [dlt hi, dge, cond_true, gAt hi, wrS (i := i) (by omega), List.length_append, List.length_cons, List.length_nil]
  rw [decide_eq_true (show (Lib.join (l.take i) [44]).length + (0 + 1) ≤ lim by omega), decide_eq_true (show (Lib.join (l.take i) [44]).length + (0 + 1) + l[i].length ≤ lim by omega), decide_eq_true (show (Lib.join (l.take i) [44]).length + l[i].length ≤ lim by omega)]
  simp only [cond_true]
  cases hd : decide ((i : Int) > 0) with
  | true => rw [hd] at ih; exact ih
  | false => rw [hd] at ih; exact ih
theorem avt {l : List Txt} (hn : l ≠ []) (h : ∀ x ∈ l, x ≠ []) : Lib.join l [44] ≠ [] := by
 cases l with
 | nil => exact absurd rfl hn
 | cons x r =>
  rw [Lib.join_cons]
  intro e
  exact h x (by simp) (List.append_eq_nil_iff.1 e).1
theorem aae {N : Nat} (hN : lim < N) {l : List Txt} (hl : l.length ≤ 1000) (hx : ∀ x ∈ l, x.length ≤ 1000) (hne : ∀ x ∈ l, x ≠ []) : Dl N l [44] = some (Fe l) := by
 have hlim := aY
 have h := ND (N := N) hl hx l.length N 0 (by omega) (by omega)
 have h : Dl N l [44] = some (bif Lib.join l [44] == [] then [45] else Lib.join l [44]) := h
 rw [h]
 unfold Fe
 cases l with
 | nil => rfl
 | cons x r =>
  have := avt (l := x :: r) (by simp) hne
  rw [show (Lib.join (x :: r) [44] == []) = false from beq_eq_false_iff_ne.2 this]
  rfl
theorem abS {N : Nat} {l : List Txt} (hl : l.length ≤ 1000) (hx : ∀ x ∈ l, x.length ≤ 1000) : NE N l = some (Fe l) := by
 have hlim := aY
 have hj := QA (B := 1000) hx
 have hj2 : l.length * (1000 + 1) ≤ 1000 * 1001 := Nat.mul_le_mul_right _ hl
 unfold NE Fe
 cases l with
 | nil => rfl
 | cons x r =>
  have e : (((x :: r).length : Int) == 0) = false := by rw [beq_eq_false_iff_ne, List.length_cons]; omega
  have hJ : strings_Join N (x :: r) [44] = some (Lib.join (x :: r) [44]) := by
   unfold strings_Join
   rw [decide_eq_true (show (Lib.join (x :: r) [44]).length ≤ lim by omega)]; rfl
  rw [e, au hJ]
  rfl
theorem I8 {l : List Txt} {B : Nat} (hx : ∀ x ∈ l, x.length ≤ B) : (Fe l).length ≤ l.length * (B + 1) + 1 := by
 unfold Fe
 cases l with
 | nil => show ([45] : Txt).length ≤ _; simp
 | cons x r => exact Nat.le_succ_of_le (QA hx)
def ahF (l : List Int) : Txt := Fe (l.map Lib.itoa)
theorem Zw (u : Nat) : Lib.decDigits u ≠ [] := by
 rw [Lib.decDigits]
 split <;> simp
theorem asw {n : Int} (h0 : 0 ≤ n) : Lib.itoa n ≠ [] := by
 unfold Lib.itoa
 rw [if_neg (by omega)]
 exact Zw _
theorem Cc {l : List Int} (h : ∀ n ∈ l, 0 ≤ n ∧ n ≤ 1000000) : (∀ x ∈ l.map Lib.itoa, x.length ≤ 18) ∧ ∀ x ∈ l.map Lib.itoa, x ≠ [] := by
 refine ⟨fun x hx => ?_, fun x hx => ?_⟩
 ·obtain ⟨n, hn, rfl⟩ := List.mem_map.1 hx
  have := h n hn
  exact gY (by omega) (by omega)
 ·obtain ⟨n, hn, rfl⟩ := List.mem_map.1 hx
  exact asw (h n hn).1
theorem axV {N : Nat} (hN : lim < N) {l : List Int} (hl : l.length ≤ 1000) (h : ∀ n ∈ l, 0 ≤ n ∧ n ≤ 1000000) : XM N l = some (ahF l) := by
 have hlim := aY
 obtain ⟨h1, h2⟩ := Cc h
 unfold XM adl
 refine (OO (l := l) Lib.itoa (fun out => ob (Dl N out [44]) [] fun r_1 => some r_1) (fun g i out hi ho => ?_) (fun g out => ?_) (by omega)).trans ?_
 ·have hn := h l[i] (List.getElem_mem hi)
  unfold Jp
  simp only [dlt hi, dge, cond_true, gAt hi, wrS (i := i) (by omega)]
  rw [au (SY (by omega) (by omega)), decide_eq_true (show (out.length + 1) * 16 ≤ lim by omega), cond_true]
 ·unfold Jp
  rw [d_]; rfl
 ·rw [au (aae hN (by simpa using hl) (fun x hx => Nat.le_trans (h1 x hx) (by decide)) h2)]
  rfl
def p_ (old b : af) : af × Txt := bif bf b then (b, [111, 107]) else (old, [110, 111])
theorem aeM {N : Nat} (hN : lim < N) (old : af) {b : af} (hb : smB b) : Gg N old b = some (p_ old b) := by
 unfold Gg p_
 rw [au (nJ hN hb)]
 cases bf b <;> rfl
theorem z_ {N : Nat} (hN : lim < N) (old : af) {b : af} (hb : smB b) : aeS N old b = some ((p_ old b).2, (p_ old b).1) := by
 unfold aeS p_
 rw [au (nR hN hb)]
 cases bf b <;> rfl
def lJ (r : af × Int) : af × Txt := (r.1, [99, 111, 100, 101, 32] ++ Lib.itoa r.2)
theorem afF {N : Nat} (b : af) {code : Int} (h0 : 0 ≤ code) (h1 : code ≤ 1000000) : uV N b code = some (lJ (b, code)) := by
 have hlim := aY
 have hl := gY (n := code) h0 (by omega)
 unfold uV
 rw [au (SY h0 (by omega))]
 simp only [List.length_cons, List.length_nil]
 rw [decide_eq_true (by omega)]
 rfl
theorem TZ {N : Nat} (old b : af) {code : Int} (h0 : 0 ≤ code) (h1 : code ≤ 1000000) (hne : code = 1 → b = old) : LV N old b code = some ((lJ (b, code)).2, (lJ (b, code)).1) := by
 have hlim := aY
 have hl := gY (n := code) h0 (by omega)
 unfold LV
 simp only [au (uk (N := N) h0 (show code < 1000000000000000000 by omega)), List.length_cons, List.length_nil]
 rw [decide_eq_true (by omega)]
 cases hc : code != 1 with
 | true => rfl
 | false =>
  have : code = 1 := by simpa using hc
  rw [hne this]
  rfl
theorem aer {N : Nat} (hN : lim < N) (kind : Int) {st : Txt} {ws : List Txt} (hl : 4 ≤ ws.length) (hst : st.length ≤ 1000000) (hws : ∀ x ∈ ws, x.length ≤ 1000000) :
 Tf N kind st ws = some (qL (ws.getD 0 []), kind, eX st, BQ (ws.getD 1 []), eX (ws.getD 2 []), eX (ws.getD 3 [])) := by
 have hg : ∀ k, k < 4 → (ws.getD k []).length ≤ 1000000 := fun k hk => by
  rw [h_ (show k < ws.length by omega)]
  exact hws _ (List.getElem_mem _)
 unfold Tf
 simp only [decide_eq_true (show (0 : Int) < (ws.length : Int) by omega), decide_eq_true (show (1 : Int) < (ws.length : Int) by omega), decide_eq_true (show (2 : Int) < (ws.length : Int) by omega), decide_eq_true (show (3 : Int) < (ws.length : Int) by omega), cond_true]
 rw [au (jY hN _), au (wR hN (by omega))]
 have g1 := hg 1 (by omega)
 have g2 := hg 2 (by omega)
 have g3 := hg 3 (by omega)
 rw [au (axF hN (s := ws.getD (Int.toNat 1) []) g1), au (wR hN (s := ws.getD (Int.toNat 2) []) (show (ws.getD 2 []).length ≤ 1048576 by omega)), au (wR hN (s := ws.getD (Int.toNat 3) []) (show (ws.getD 3 []).length ≤ 1048576 by omega))]
 rfl
def R_ (b : af) (n : Txt) : Txt := bif decide (atB b n < 0) then [110, 111, 110, 101] else Lib.itoa (dh b n).2.2.1 ++ [45] ++ Lib.itoa (dh b n).2.2.2.1 ++ [32, 111, 102, 32] ++ Lib.itoa (dh b n).2.1 ++ [32] ++ Fe (dh b n).2.2.2.2
theorem anK (b : af) {n : Txt} (h : 0 ≤ atB b n) : ∃ k : Nat, atB b n = (k : Int) ∧ ∃ hk : k < b.2.1.length, dh b n = b.2.1[k] := by
 obtain ⟨j, hj, h1, _⟩ := I_ (p := fun s : bi => s.1 == n) (l := b.2.1) (i := 0) h
 have h1 : atB b n = ((0 + j : Nat) : Int) := h1
 rw [Nat.zero_add] at h1
 refine ⟨j, h1, hj, ?_⟩
 unfold dh
 rw [h1, Int.toNat_natCast]
 exact h_ hj _
theorem OH {b : af} (h : bf b = true) {s : bi} (hs : s ∈ b.2.1) : (0 ≤ s.2.1 ∧ s.2.1 ≤ 1000) ∧ (0 ≤ s.2.2.1 ∧ s.2.2.1 ≤ 1000) ∧ (0 ≤ s.2.2.2.1 ∧ s.2.2.2.1 ≤ 1000) ∧ s.2.2.2.2.length ≤ 8 ∧ (∀ x ∈ s.2.2.2.2, x.length ≤ 8) ∧ ∀ x ∈ s.2.2.2.2, x ≠ [] := by
 have o := fP.1 h
 obtain ⟨_, h2, h3, h4, _⟩ := ig.1 (o.so s hs)
 obtain ⟨h5, h6, _⟩ := pg.1 h4
 refine ⟨h2, ⟨h3.1, by omega⟩, ⟨by omega, by omega⟩, by omega, fun x hx => xO (h6 x hx), fun x hx e => ?_⟩
 have := h6 x hx
 rw [e] at this
 revert this
 decide
theorem ax0 {N : Nat} (hN : lim < N) {b : af} (h : bf b = true) (n : Txt) : aaJ N b n = some (R_ b n) := by
 have hlim := aY
 have hs := xJ h
 unfold aaJ R_
 rw [au (Cm hN hs.2.1.1 n)]
 cases hn : decide (atB b n < 0) with
 | true => rfl
 | false =>
  have h0 : 0 ≤ atB b n := by have := of_decide_eq_false hn; omega
  obtain ⟨k, hk, hlt, hsp⟩ := anK b h0
  obtain ⟨a1, a2, a3, a4, a5, a6⟩ := OH h (List.getElem_mem hlt)
  have l1 := gY a1.1 (by omega)
  have l2 := gY a2.1 (by omega)
  have l3 := gY a3.1 (by omega)
  have l4 := I8 a5
  have l5 : b.2.1[k].2.2.2.2.length * (8 + 1) ≤ 8 * 9 := Nat.mul_le_mul_right _ a4
  rw [hsp, hk]
  simp only [dlt hlt, dge, cond_true, cond_false, gAt hlt]
  simp only [au (SY (N := N) a2.1 (show b.2.1[k].2.2.1 < 1000000000000000000 by omega)), au (SY (N := N) a3.1 (show b.2.1[k].2.2.2.1 < 1000000000000000000 by omega)), au (SY (N := N) a1.1 (show b.2.1[k].2.1 < 1000000000000000000 by omega)), au (aae hN (l := b.2.1[k].2.2.2.2) (by omega) (fun x hx => Nat.le_trans (a5 x hx) (by decide)) a6), List.length_append, List.length_cons, List.length_nil]
  rw [decide_eq_true (by omega), decide_eq_true (by omega), decide_eq_true (by omega), decide_eq_true (by omega), decide_eq_true (by omega), decide_eq_true (by omega)]
  rfl
end Go.MC
namespace Go.MC
open Go.MC.F
def Fv (b : af) (v : Txt) : Int := bif bf b then ((b.2.2.2.1.find? fun p => !p.2 && p.1.2.2.2.2.1.contains v).map fun p => p.1.1).getD 0 else 0
theorem atr {N : Nat} (hN : lim < N) {b : af} (hb : smB b) (v : Txt) : ajY N b v = some (Fv b v) := by
 have hlim := aY
 have hlp := hb.2.2.2.1
 unfold ajY apa Fv
 rw [au (nJ hN hb)]
 cases bf b with
 | false => rfl
 | true =>
  refine Bl b.2.2.2.1 _ (fun p => !p.2 && p.1.2.2.2.2.1.contains v) (fun p => p.1.1) 0 (fun g i hi => ?_) (fun g => ?_) N (by omega)
  ·have h1 : b.2.2.2.1[i].1.2.2.2.2.1.length ≤ 1048576 := (hb.2.2.2.2 _ (List.getElem_mem hi)).2.2.1.1
   unfold OD
   simp only [dlt hi, dge, gAt hi, cond_true, wrS (i := i) (by omega)]
   rw [au (NQ hN (show b.2.2.2.1[i].1.2.2.2.2.1.length ≤ lim by omega) v)]
   cases b.2.2.2.1[i].2 <;> cases b.2.2.2.1[i].1.2.2.2.2.1.contains v <;> rfl
  ·unfold OD
   rw [d_]; rfl
theorem atz {N : Nat} (hN : lim < N) {b : af} (hb : smB b) (v : Txt) : aqW N b v = some (Fv b v) := by
 have hlim := aY
 have hlp := hb.2.2.2.1
 unfold aqW alL Fv
 rw [au (nR hN hb)]
 cases bf b with
 | false => rfl
 | true =>
  refine Bl b.2.2.2.1 _ (fun p => !p.2 && p.1.2.2.2.2.1.contains v) (fun p => p.1.1) 0 (fun g i hi => ?_) (fun g => ?_) N (by omega)
  ·have h1 : b.2.2.2.1[i].1.2.2.2.2.1.length ≤ 1048576 := (hb.2.2.2.2 _ (List.getElem_mem hi)).2.2.1.1
   unfold PK
   simp only [dlt hi, dge, gAt hi, cond_true, wrS (i := i) (by omega)]
   rw [au (jk hN (show b.2.2.2.1[i].1.2.2.2.2.1.length ≤ lim by omega) v)]
   cases b.2.2.2.1[i].2 <;> cases b.2.2.2.1[i].1.2.2.2.2.1.contains v <;> rfl
  ·unfold PK
   rw [d_]; rfl
end Go.MC
namespace Go.MC
open Go.MC.F
theorem aml {α β : Type} {l : List α} {rd : (Int → List β → Option (List β)) → Int → List β → Option (List β)} (p : α → Bool) (f : α → β)
 (hstep : ∀ (g : Int → List β → Option (List β)) (i : Nat) (out : List β) (h : i < l.length), out.length ≤ i → rd g (i : Int) out = bif p l[i] then g ((i + 1 : Nat) : Int) (out ++ [f l[i]]) else g ((i + 1 : Nat) : Int) out)
 (hend : ∀ (g : Int → List β → Option (List β)) (out : List β), rd g (l.length : Int) out = some out) {N : Nat} (hN : l.length < N) : lp (fun _ _ => none) rd N 0 [] = some ((l.filter p).map f) := by
 have := iT l (fun (g : Int → List β → Option (List β)) i (d : List β) => g (i : Int) d) (fun _ _ => none) rd (fun i d x => .inl (bif p x then d ++ [f x] else d)) (fun d => some d) (fun i d => d.length ≤ i)
  (fun g i st h hi => ⟨by
   rw [hstep g i st h hi]
   cases p l[i] <;> rfl, fun st' hs => by cases hs; cases p l[i] <;> simp <;> omega⟩) (fun g d hd => hend g d) N hN [] (by simp)
 refine this.trans ?_
 have : ∀ (l : List α) i (d : List β), mP (fun d => some d) (gJ (fun i (d : List β) x => (Sum.inl (bif p x then d ++ [f x] else d) : List β ⊕ Option (List β))) i l d) = some (d ++ (l.filter p).map f) := by
  intro l
  induction l with
  | nil => intro i d; simp [gJ, mP]
  | cons x xs ih =>
   intro i d
   simp only [gJ]
   rw [ih]
   cases hx : p x <;> simp [List.filter_cons, hx]
 rw [this l 0 []]; rfl
def oL (b : af) (v : Txt) : List Int := bif bf b then (b.2.2.2.1.filter fun p => p.1.2.2.2.2.2.contains v).map fun p => p.1.1 else []
theorem Zh (b : af) (v : Txt) : (oL b v).length ≤ b.2.2.2.1.length := by
 unfold oL
 cases bf b with
 | false => simp
 | true => simp only [cond_true, List.length_map]; exact List.length_filter_le _ _
theorem aoC {N : Nat} (hN : lim < N) {b : af} (hb : smB b) (v : Txt) : ajE N b v = some (oL b v) := by
 have hlim := aY
 have hlp := hb.2.2.2.1
 unfold ajE akT oL
 rw [au (nJ hN hb)]
 cases bf b with
 | false => rfl
 | true =>
  refine aml (l := b.2.2.2.1) (fun p => p.1.2.2.2.2.2.contains v) (fun p => p.1.1) (fun g i out hi ho => ?_) (fun g out => ?_) (by omega)
  ·have h1 : b.2.2.2.1[i].1.2.2.2.2.2.length ≤ 1048576 := (hb.2.2.2.2 _ (List.getElem_mem hi)).2.2.2.1
   unfold OQ
   have hg : decide ((out.length + [(b.2.2.2.1[i]).1.1].length) * 8 ≤ lim) = true := decide_eq_true (by simp only [List.length_cons, List.length_nil]; omega)
   simp only [dlt hi, dge, gAt hi, cond_true, wrS (i := i) (by omega), hg]
   rw [au (NQ hN (show b.2.2.2.1[i].1.2.2.2.2.2.length ≤ lim by omega) v)]
  ·unfold OQ
   rw [d_]; rfl
theorem alj {N : Nat} (hN : lim < N) {b : af} (hb : smB b) (v : Txt) : amg N b v = some (oL b v) := by
 have hlim := aY
 have hlp := hb.2.2.2.1
 unfold amg alE oL
 rw [au (nR hN hb)]
 cases bf b with
 | false => rfl
 | true =>
  refine aml (l := b.2.2.2.1) (fun p => p.1.2.2.2.2.2.contains v) (fun p => p.1.1) (fun g i out hi ho => ?_) (fun g out => ?_) (by omega)
  ·have h1 : b.2.2.2.1[i].1.2.2.2.2.2.length ≤ 1048576 := (hb.2.2.2.2 _ (List.getElem_mem hi)).2.2.2.1
   unfold Qe
   have hg : decide ((out.length + [(b.2.2.2.1[i]).1.1].length) * 8 ≤ lim) = true := decide_eq_true (by simp only [List.length_cons, List.length_nil]; omega)
   simp only [dlt hi, dge, gAt hi, cond_true, wrS (i := i) (by omega), hg]
   rw [au (jk hN (show b.2.2.2.1[i].1.2.2.2.2.2.length ≤ lim by omega) v)]
  ·unfold Qe
   rw [d_]; rfl
end Go.MC
namespace Go.MC
open Go.MC.F
def qO (sp : List bi) (n : Txt) : Nat := (sp.takeWhile fun s => Op.bytesLess s.1 n).length
theorem alh (sp : List bi) (n : Txt) : qO sp n ≤ sp.length := by
 unfold qO
 exact (List.takeWhile_sublist _).length_le
theorem aiz {sp : List bi} {n : Txt} {k : Nat} (hk : k < sp.length) (h : Op.bytesLess sp[k].1 n = true) : qO (sp.drop k) n = 1 + qO (sp.drop (k + 1)) n := by
 unfold qO
 rw [List.drop_eq_getElem_cons hk, List.takeWhile_cons, if_pos h, List.length_cons]
 omega
theorem aoz {sp : List bi} {n : Txt} {k : Nat} (hk : k < sp.length) (h : Op.bytesLess sp[k].1 n = false) : qO (sp.drop k) n = 0 := by
 unfold qO
 rw [List.drop_eq_getElem_cons hk, List.takeWhile_cons, if_neg (by rw [h]; decide)]
 rfl
def avR (ws : List Txt) : bi := (ws.getD 1 [], qL (ws.getD 2 []), qL (ws.getD 3 []), qL (ws.getD 3 []), eX (ws.getD 4 []))
def aeG (b : af) (ws : List Txt) : af := (b.1, b.2.1.take (qO b.2.1 (ws.getD 1 [])) ++ ([avR ws] ++ b.2.1.drop (qO b.2.1 (ws.getD 1 []))), b.2.2)
def xU (ws : List Txt) : Prop := ∀ x ∈ ws, x.length ≤ 10000
theorem xU.at {ws : List Txt} (h : xU ws) (k : Nat) : (ws.getD k []).length ≤ 10000 := by
 by_cases hk : k < ws.length
 ·rw [h_ hk]; exact h _ (List.getElem_mem _)
 ·rw [List.getD_eq_getElem?_getD, List.getElem?_eq_none (by omega)]; simp
theorem pW {s : Txt} (h : s.length ≤ 10000) : smL (eX s) := by
 have := wV s
 refine ⟨by omega, fun x hx => ?_⟩
 have := xg hx
 unfold smT; omega
theorem anm {s : Txt} (h : s.length ≤ 10000) : (BQ s).length ≤ 1048576 ∧ ∀ u ∈ BQ s, smU u := by
 have := wV s
 unfold BQ
 refine ⟨by rw [List.length_map]; omega, fun u hu => ?_⟩
 obtain ⟨x, hx, rfl⟩ := List.mem_map.1 hu
 have h1 := xg hx
 have h2 : ∀ c : UInt8, (Lib.cut x [c]).1.length ≤ x.length := fun c => by
  unfold Lib.cut
  split
  ·simp only [List.length_take]; omega
  ·exact Nat.le_refl _
 unfold afq smU smT
 cases x.count 60 == 1 with
 | true => have := h2 60; show (Lib.cut x [60]).1.length ≤ _; omega
 | false =>
  cases x.count 62 == 1 with
  | true => have := h2 62; show (Lib.cut x [62]).1.length ≤ _; omega
  | false => show x.length ≤ _; omega
theorem kU {b : af} (h : bf b = true) : b.1.length ≤ 12 ∧ b.2.1.length ≤ 8 ∧ b.2.2.2.1.length ≤ 6 := by
 have o := fP.1 h
 have hf := o.foes
 simp only [oZ, Bool.and_eq_true, Bool.not_eq_true', decide_eq_false_iff_not] at hf
 exact ⟨by omega, o.sl, o.pl⟩
theorem agE {b : af} (h : bf b = true) {ws : List Txt} (hw : xU ws) : smB (aeG b ws) := by
 obtain ⟨h1, h2, h3⟩ := kU h
 have hs := xJ h
 refine ⟨hs.1, ⟨?_, fun s hm => ?_⟩, hs.2.2⟩
 ·show (b.2.1.take _ ++ ([avR ws] ++ b.2.1.drop _)).length ≤ _
  simp only [List.length_append, List.length_take, List.length_drop, List.length_cons, List.length_nil]
  omega
 ·rcases List.mem_append.1 hm with hm | hm
  ·exact hs.2.1.2 s (List.mem_of_mem_take hm)
  ·rcases List.mem_append.1 hm with hm | hm
   ·obtain rfl := List.mem_singleton.1 hm
    have h1 := hw.at 1
    exact ⟨show (ws.getD 1 []).length ≤ 1048576 by omega, pW (hw.at 4)⟩
   ·exact hs.2.1.2 s (List.mem_of_mem_drop hm)
theorem abG {N : Nat} (hN : lim < N) {b : af} (h : bf b = true) {ws : List Txt} (hw : xU ws) (hl : ws.length = 5) : ∀ (d n k : Nat), k + d = b.2.1.length → d < n → qO b.2.1 (ws.getD 1 []) = k + qO (b.2.1.drop k) (ws.getD 1 []) →
 AC N b ws b 0 n (k : Int) = some (p_ b (aeG b ws)) := by
 have hlim := aY
 obtain ⟨hb1, hb2, hb3⟩ := kU h
 have w4 := hw.at 4
 have g : ∀ j : Nat, j < 5 → decide ((j : Int) < (ws.length : Int)) = true := fun j hj => decide_eq_true (by omega)
 have g1 := g 1 (by omega)
 have g2 := g 2 (by omega)
 have g3 := g 3 (by omega)
 have g4 := g 4 (by omega)
 intro d
 -- the place is found
 have body : ∀ k : Nat, k ≤ b.2.1.length → qO b.2.1 (ws.getD 1 []) = k →
  ob (Gg N b (b.1, [] ++ List.drop 0 (List.take k b.2.1) ++ [(ws.getD 1 [], qL (ws.getD 2 []), qL (ws.getD 3 []), qL (ws.getD 3 []), eX (ws.getD 4 []))] ++ List.drop k (List.take b.2.1.length b.2.1), b.2.2)) (([], [], [], [], Int.ofNat 0), []) (fun r_5 => some r_5) = some (p_ b (aeG b ws)) := by
  intro k hk hs
  have e : (b.1, [] ++ List.drop 0 (List.take k b.2.1) ++ [(ws.getD 1 [], qL (ws.getD 2 []), qL (ws.getD 3 []), qL (ws.getD 3 []), eX (ws.getD 4 []))] ++ List.drop k (List.take b.2.1.length b.2.1), b.2.2) = aeG b ws := by
   unfold aeG
   rw [hs, List.take_length, List.nil_append, List.drop_zero, List.append_assoc]
   rfl
  rw [e, au (aeM hN b (agE h hw))]
 have sz : ∀ k : Nat, k ≤ b.2.1.length → decide ((0 + (List.drop 0 (List.take k b.2.1)).length) * 64 ≤ lim) = true ∧ decide ((([] ++ List.drop 0 (List.take k b.2.1)).length + 1) * 64 ≤ lim) = true ∧
  ∀ s : bi, decide ((([] ++ List.drop 0 (List.take k b.2.1) ++ [s]).length + (List.drop k (List.take b.2.1.length b.2.1)).length) * 64 ≤ lim) = true := by
  intro k hk
  refine ⟨decide_eq_true ?_, decide_eq_true ?_, fun s => decide_eq_true ?_⟩
  ·simp only [List.drop_zero, List.length_take]; omega
  ·simp only [List.drop_zero, List.length_take, List.nil_append]; omega
  ·simp only [List.drop_zero, List.length_take, List.nil_append, List.length_append, List.length_drop, List.length_cons, List.length_nil]; omega
 induction d with
 | zero =>
  intro n k h1 h2 h3
  obtain ⟨n, rfl⟩ : ∃ j, n = j + 1 := ⟨n - 1, by omega⟩
  show uu N b ws b 0 (AC N b ws b 0 n) (k : Int) = _
  have hk : k = b.2.1.length := by omega
  have hs : qO b.2.1 (ws.getD 1 []) = k := by
   rw [h3, hk, List.drop_length]; rfl
  obtain ⟨s1, s2, s3⟩ := sz k (by omega)
  unfold uu
  rw [show decide ((k : Int) < (b.2.1.length : Int)) = false from decide_eq_false (by omega)]
  simp only [cond_false, show decide ((1 : Int) < (ws.length : Int)) = true from g1, show decide ((2 : Int) < (ws.length : Int)) = true from g2, show decide ((3 : Int) < (ws.length : Int)) = true from g3, show decide ((4 : Int) < (ws.length : Int)) = true from g4, cond_true, dge, dle (show k ≤ b.2.1.length by omega), dle (Nat.le_refl b.2.1.length),
   show Int.toNat 0 = 0 from rfl, show Int.toNat 1 = 1 from rfl, show Int.toNat 2 = 2 from rfl, show Int.toNat 3 = 3 from rfl, show Int.toNat 4 = 4 from rfl, Int.toNat_natCast, au (jY (N := N) hN (ws.getD 2 [])), au (jY (N := N) hN (ws.getD 3 [])), au (wR hN (s := ws.getD 4 []) (by omega)), s1, s2, s3]
  exact body k (by omega) hs
 | succ d ih =>
  intro n k h1 h2 h3
  obtain ⟨n, rfl⟩ : ∃ j, n = j + 1 := ⟨n - 1, by omega⟩
  show uu N b ws b 0 (AC N b ws b 0 n) (k : Int) = _
  have hk : k < b.2.1.length := by omega
  obtain ⟨s1, s2, s3⟩ := sz k (by omega)
  unfold uu
  rw [dlt hk]
  simp only [show decide ((1 : Int) < (ws.length : Int)) = true from g1, show decide ((2 : Int) < (ws.length : Int)) = true from g2, show decide ((3 : Int) < (ws.length : Int)) = true from g3, show decide ((4 : Int) < (ws.length : Int)) = true from g4, cond_true, dge, dlt hk, gAt hk, wrS (i := k) (by omega), dle (show k ≤ b.2.1.length by omega), dle (Nat.le_refl b.2.1.length),
   show Int.toNat 0 = 0 from rfl, show Int.toNat 1 = 1 from rfl, show Int.toNat 2 = 2 from rfl, show Int.toNat 3 = 3 from rfl, show Int.toNat 4 = 4 from rfl, Int.toNat_natCast, au (jY (N := N) hN (ws.getD 2 [])), au (jY (N := N) hN (ws.getD 3 [])), au (wR hN (s := ws.getD 4 []) (by omega)), s1, s2, s3]
  have hg : List.getD b.2.1 k aJ = b.2.1[k] := h_ hk _
  rw [hg]
  cases hb : Op.bytesLess b.2.1[k].1 (ws.getD 1 []) with
  | true =>
   simp only [cond_true]
   exact ih n (k + 1) (by omega) (by omega) (by rw [h3, aiz hk hb]; omega)
  | false =>
   simp only [cond_false]
   exact body k (by omega) (by rw [h3, aoz hk hb]; rfl)
theorem awr {N : Nat} (hN : lim < N) {b : af} (h : bf b = true) {ws : List Txt} (hw : xU ws) (hl : ws.length = 5) : abB N b ws = some (p_ b (aeG b ws)) := by
 have hlim := aY
 obtain ⟨hb1, hb2, hb3⟩ := kU h
 unfold abB aeZ
 rw [au (vK hN (xJ h))]
 exact abG hN h hw hl b.2.1.length N 0 (by omega) (by omega) (by simp)
end Go.MC
namespace Go.MC
open Go.MC.F
theorem D6 {α : Type} (p : α → Bool) (d : α) : ∀ (l : List α), l.Pairwise (fun a b => p b = true → p a = true) → (List.range l.length).countP (fun i => p (l.getD i d)) = (l.takeWhile p).length
 | [], _ => rfl
 | x :: l, h => by
  obtain ⟨h1, h2⟩ := List.pairwise_cons.1 h
  rw [List.length_cons, List.range_succ_eq_map, List.countP_cons, List.countP_map, List.takeWhile_cons]
  have e : ((fun i => p ((x :: l).getD i d)) ∘ Nat.succ) = fun i => p (l.getD i d) := by
   funext i
   simp [Function.comp]
  rw [e, D6 p d l h2]
  have e0 : (x :: l).getD 0 d = x := rfl
  rw [e0]
  cases hx : p x with
  | true => simp
  | false =>
   have : l.takeWhile p = [] := by
    cases l with
    | nil => rfl
    | cons y l =>
     have hy : ¬ p y = true := fun hy => by
      have := h1 y (by simp) hy
      rw [hx] at this; cases this
     rw [List.takeWhile_cons, if_neg hy]
   rw [this]
   simp
theorem amo {sp : List bi} (h : Asc (sp.map (·.1))) (n : Txt) : sp.Pairwise (fun a b => Op.bytesLess b.1 n = true → Op.bytesLess a.1 n = true) := by
 have := List.pairwise_map.1 h
 exact this.imp fun hab hb => ku hab hb
theorem aoM {N : Nat} {b : af} (h : bf b = true) {ws : List Txt} (hl : 1 < ws.length) : dY N ((b.2.1.length : Nat) : Int) b ws = some ((qO b.2.1 (ws.getD 1 []) : Nat) : Int) := by
 obtain ⟨hb1, hb2, hb3⟩ := kU h
 have o := fP.1 h
 have hp := amo o.sa (ws.getD 1 [])
 unfold dY
 have hm : ((List.range ((b.2.1.length : Nat) : Int).toNat).all fun i => (List.range ((b.2.1.length : Nat) : Int).toNat).all fun j => !(decide (i ≤ j) && o6 b ws i) || o6 b ws j) = true := by
  rw [Int.toNat_natCast]
  refine List.all_eq_true.2 fun i hi => List.all_eq_true.2 fun j hj => ?_
  have hi := List.mem_range.1 hi
  have hj := List.mem_range.1 hj
  cases hij : decide (i ≤ j) with
  | false => rfl
  | true =>
   have hij := of_decide_eq_true hij
   unfold o6
   rw [h_ hi, h_ hj]
   cases hlj : Op.bytesLess b.2.1[j].1 (ws.getD 1 []) with
   | false => simp
   | true =>
    have : Op.bytesLess b.2.1[i].1 (ws.getD 1 []) = true := by
     rcases Nat.lt_or_ge i j with hlt | hge
     ·exact List.pairwise_iff_getElem.1 hp i j hi hj hlt hlj
     ·have : i = j := by omega
      subst this; exact hlj
    rw [this]; rfl
 rw [hm, decide_eq_true (show (0 : Int) ≤ (b.2.1.length : Int) by omega), decide_eq_true (show (b.2.1.length : Int) ≤ (b.2.1.length : Int) by omega), decide_eq_true (show (b.2.1.length : Int) < 4611686018427387904 by omega), decide_eq_true hl]
 simp only [Bool.and_self, cond_true]
 have := D6 (fun s : bi => Op.bytesLess s.1 (ws.getD 1 [])) (Ty.dflt b_) b.2.1 hp
 unfold qO
 rw [← this, Int.toNat_natCast]
 congr 2
 refine List.countP_congr fun i _ => ?_
 unfold o6
 simp
theorem asz {N : Nat} {sp : List bi} {k : Nat} (hk : k ≤ sp.length) (hl : sp.length ≤ 8) (s : bi) : dS N sp (k : Int) [s] = some (sp.take k ++ ([s] ++ sp.drop k)) := by
 have hlim := aY
 unfold dS
 rw [decide_eq_true (show (0 : Int) ≤ (k : Int) by omega), decide_eq_true (show (k : Int) ≤ (sp.length : Int) by omega), decide_eq_true (show 0 < [s].length by simp), decide_eq_true (show (sp.length + [s].length) * 64 ≤ lim by simp; omega)]
 rfl
def C9 (x : Int) : Prop := x = 0 ∨ (2 ≤ x ∧ x ≤ 20)
theorem aag {f : Use → Int} (h : ∀ u, C9 (f u)) (l : List Use) : C9 (first f l) := by
 unfold first
 cases l.find? fun u => f u != 0 with
 | none => exact .inl rfl
 | some u => exact h u
theorem jQ {c : Bool} {x y : Int} (hx : C9 x) (hy : C9 y) : C9 (bif c then x else y) := by
 cases c
 ·exact hy
 ·exact hx
theorem cd (n : Nat) (h : n = 0 ∨ (2 ≤ n ∧ n ≤ 20)) : C9 (n : Int) := h.imp (fun h => by omega) fun h => by omega
theorem arZ {b : af} (h : bf b = true) (w : aK) : C9 (dX b w) := by
 have hs : C9 (iJ b w) := jQ (cd 8 (by omega)) (jQ (aag (fun u => jQ (jQ (cd 8 (by omega)) (jQ (cd 5 (by omega)) (cd 0 (by omega)))) (jQ (cd 0 (by omega)) (cd 8 (by omega)))) _) (cd 0 (by omega)))
 have ha : C9 (kK b w) := aag (fun u => jQ (cd 9 (by omega)) (jQ (cd 10 (by omega)) (jQ (cd 11 (by omega)) (cd 0 (by omega))))) _
 unfold dX
 rw [h, Bool.not_true, cond_false]
 exact jQ (cd 2 (by omega)) (jQ (cd 2 (by omega)) (jQ (jQ (cd 0 (by omega)) (cd 3 (by omega))) (jQ (cd 4 (by omega)) (jQ (cd 5 (by omega)) (jQ (cd 6 (by omega)) (jQ (cd 7 (by omega)) (jQ hs ha)))))))
theorem lw {x : Int} (h : C9 x) : 0 ≤ x ∧ x ≤ 1000000 ∧ x ≠ 1 := by unfold C9 at h; omega
theorem yJ {b : af} (h : bf b = true) (w : aK) : C9 (jL b w).2 := by
 have hc := arZ h w
 unfold jL
 have h1 : (dX b w == 1) = false := beq_eq_false_iff_ne.2 (lw hc).2.2
 rw [h1]
 cases inB (dX b w) 2 4
 ·cases decide (bM b w.1 ≥ 0)
  ·cases dX b w == 0 <;> exact hc
  ·exact hc
 ·exact hc
theorem Zj {b : af} (h : bf b = true) (n : Int) : C9 (oN b n).2 := by
 unfold oN
 rw [h]
 cases decide (bM b n < 0)
 ·exact cd 0 (by omega)
 ·exact cd 3 (by omega)
theorem Qn {b : af} (h : bf b = true) (n moved : Int) (done : Bool) : C9 (mr b n moved done).2 := by
 unfold mr
 rw [h]
 cases decide (bM b n < 0)
 ·cases !nS (cu b n).1 moved
  ·cases !(cu b n).2
   ·exact cd 0 (by omega)
   ·exact cd 12 (by omega)
  ·exact cd 2 (by omega)
 ·exact cd 3 (by omega)
theorem E_ {b : af} (h : bf b = true) {p : dm} (hp : p ∈ b.2.2.2.1) : 1 ≤ p.1.1 ∧ p.1.1 ≤ 1000000 := aam (C_ h hp).1
theorem Zt {b : af} (h : bf b = true) (v : Txt) : 0 ≤ Fv b v ∧ Fv b v ≤ 1000000 := by
 unfold Fv
 rw [h]
 cases hf : b.2.2.2.1.find? fun p => !p.2 && p.1.2.2.2.2.1.contains v with
 | none => decide
 | some p =>
  have := E_ h (List.mem_of_find?_eq_some hf)
  show 0 ≤ p.1.1 ∧ p.1.1 ≤ 1000000
  omega
theorem SH {b : af} (h : bf b = true) (v : Txt) : (oL b v).length ≤ 6 ∧ ∀ n ∈ oL b v, 0 ≤ n ∧ n ≤ 1000000 := by
 have h6 := (kU h).2.2
 have := Zh b v
 refine ⟨by omega, fun n hn => ?_⟩
 unfold oL at hn
 rw [h] at hn
 obtain ⟨p, hp, rfl⟩ := List.mem_map.1 hn
 have := E_ h (List.mem_filter.1 hp).1
 omega
def RJ (b : af) (v : Txt) : Txt := Lib.itoa (Fv b v) ++ [32] ++ ahF (oL b v)
theorem Rf {b : af} (h : bf b = true) (v : Txt) : (ahF (oL b v)).length ≤ 115 := by
 obtain ⟨h1, h2⟩ := SH h v
 obtain ⟨h3, _⟩ := Cc h2
 have := I8 h3
 have h4 : ((oL b v).map Lib.itoa).length * (18 + 1) ≤ 6 * 19 := Nat.mul_le_mul_right _ (by rw [List.length_map]; exact h1)
 unfold ahF
 omega
end Go.MC
namespace Go.MC
open Go.MC.F
def dO {ρ : Type} (o : Option ρ) (P : ρ → Prop) : Prop := ∀ r, o = some r → P r
theorem dO.some {ρ : Type} {r : ρ} {P : ρ → Prop} (h : P r) : dO (some r) P := fun x e => by cases e; exact h
theorem dO.no {ρ : Type} {P : ρ → Prop} : dO (none : Option ρ) P := fun x e => by cases e
theorem dO.by' {ρ : Type} {b : Bool} {x y : Option ρ} {P : ρ → Prop} (h1 : dO x P) (h2 : dO y P) : dO (bif b then x else y) P := by
 cases b
 ·exact h2
 ·exact h1
theorem dO.dec {ρ : Type} {p : Prop} [Decidable p] {x y : Option ρ} {P : ρ → Prop} (h1 : p → dO x P) (h2 : ¬ p → dO y P) : dO (bif decide p then x else y) P := by
 by_cases h : p
 ·rw [decide_eq_true h]; exact h1 h
 ·rw [decide_eq_false h]; exact h2 h
theorem dO.ob {α ρ : Type} {o : Option α} {d : α} {B : α → Option ρ} {P : ρ → Prop} (h : ∀ a, dO (B a) P) : dO (ob o d B) P := by
 cases o with
 | none => exact dO.no
 | some a => exact h a
theorem dL.and {ρ : Type} {o : Option ρ} {P Q : ρ → Prop} (h : dL o P) (g : dO o Q) : dL o fun r => P r ∧ Q r := let ⟨r, e, hr⟩ := h; ⟨r, e, hr, g r e⟩
theorem vN {σ ρ F : Type} (ap : F → σ → Option ρ) {z : F} {rd : F → F} {P : ρ → Prop} (hz : ∀ s, dO (ap z s) P) (hr : ∀ g, (∀ s, dO (ap g s) P) → ∀ s, dO (ap (rd g) s) P) : ∀ n s, dO (ap (lp z rd n) s) P
 | 0, s => hz s
 | n + 1, s => hr _ (vN ap hz hr n) s
theorem dn8 {N : Nat} {number t0 t1 k : Int} {st : List Txt} {us : List Use} {r10 r11 : List Txt × Rdr} (n : Nat) (i : Int) (w : List Txt) : dO (sJ N number t0 t1 k st us r10 r11 n i w) fun q => q.1.1 = number :=
 vN (σ := Int × List Txt) (fun (g : Int → List Txt → Option (aK × Rdr)) s => g s.1 s.2) (fun s => dO.no) (fun g hg s => by
  have hg' : ∀ i w, dO (g i w) fun q : aK × Rdr => q.1.1 = number := fun i w => hg (i, w)
  show dO (qj N number t0 t1 k st us r10 r11 g s.1 s.2) _
  unfold qj
  repeat (first | exact dO.no | exact dO.some rfl | exact hg' _ _ | refine dO.by' ?_ ?_ | refine dO.ob fun _ => ?_)) n (i, w)
theorem dn6 {N : Nat} {nx : Int → List Int → Int → List Txt → List Use → Option (aK × Rdr)} {number : Int} (hnx : ∀ a b c d e, dO (nx a b c d e) fun q => q.1.1 = number) {b : af} {t0 t1 k i : Int} {us : List Use} {u0 : Txt} {u1 u2 : Int} (n : Nat) (x : Int) (l : List Int) (y : Int) (w : List Txt) :
 dO (pM N nx b number t0 t1 k i us u0 u1 u2 n x l y w) fun q => q.1.1 = number :=
 vN (σ := Int × List Int × Int × List Txt) (fun (g : Int → List Int → Int → List Txt → Option (aK × Rdr)) s => g s.1 s.2.1 s.2.2.1 s.2.2.2) (fun s => dO.no) (fun g hg s => by
  have hg' : ∀ a b c d, dO (g a b c d) fun q : aK × Rdr => q.1.1 = number := fun a b c d => hg (a, b, c, d)
  show dO (qV N nx b number t0 t1 k i us u0 u1 u2 g s.1 s.2.1 s.2.2.1 s.2.2.2) _
  unfold qV
  repeat (first | exact dO.no | exact dO.some rfl | exact hg' _ _ _ _ | exact hnx _ _ _ _ _ | refine dO.by' ?_ ?_ | refine dO.ob fun _ => ?_)) n (x, l, y, w)
theorem dn4 {N : Nat} {b : af} {number t0 t1 k : Int} (n : Nat) (x : Int) (l : List Int) (y : Int) (w : List Txt) (us : List Use) : dO (nY N b number t0 t1 k n x l y w us) fun q => q.1.1 = number :=
 vN (σ := Int × List Int × Int × List Txt × List Use) (fun (g : Int → List Int → Int → List Txt → List Use → Option (aK × Rdr)) s => g s.1 s.2.1 s.2.2.1 s.2.2.2.1 s.2.2.2.2) (fun s => dO.no) (fun g hg s => by
  have hg' : ∀ a b c d e, dO (g a b c d e) fun q : aK × Rdr => q.1.1 = number := fun a b c d e => hg (a, b, c, d, e)
  show dO (qi N (pM N g b number t0 t1 k) (sJ N) b number t0 t1 k g s.1 s.2.1 s.2.2.1 s.2.2.2.1 s.2.2.2.2) _
  unfold qi
  repeat (first | exact dO.no | exact dO.some rfl | exact hg' _ _ _ _ _ | exact dn8 _ _ _ | exact dn6 hg' _ _ _ _ _ | refine dO.by' ?_ ?_ | refine dO.ob fun _ => ?_)) n (x, l, y, w, us)
theorem dn2 {N : Nat} {nx : Int → List Int → Int → List Txt → Option (aK × Rdr)} {number : Int} (hnx : ∀ a b c d, dO (nx a b c d) fun q => q.1.1 = number) {b : af} {t0 t1 k i : Int} {r3 : Int × Rdr} (n : Nat) (x : Int) (w : List Txt) :
 dO (sN N nx b number t0 t1 k i r3 n x w) fun q => q.1.1 = number :=
 vN (σ := Int × List Txt) (fun (g : Int → List Txt → Option (aK × Rdr)) s => g s.1 s.2) (fun s => dO.no) (fun g hg s => by
  have hg' : ∀ a b, dO (g a b) fun q : aK × Rdr => q.1.1 = number := fun a b => hg (a, b)
  show dO (qQ N nx b number t0 t1 k i r3 g s.1 s.2) _
  unfold qQ
  repeat (first | exact dO.no | exact dO.some rfl | exact hg' _ _ | exact hnx _ _ _ _ | refine dO.by' ?_ ?_ | refine dO.ob fun _ => ?_)) n (x, w)
theorem dn0 {N : Nat} {b : af} {number t0 t1 k : Int} (n : Nat) (x : Int) (l : List Int) (y : Int) (w : List Txt) : dO (OU N b number t0 t1 k n x l y w) fun q => q.1.1 = number :=
 vN (σ := Int × List Int × Int × List Txt) (fun (g : Int → List Int → Int → List Txt → Option (aK × Rdr)) s => g s.1 s.2.1 s.2.2.1 s.2.2.2) (fun s => dO.no) (fun g hg s => by
  have hg' : ∀ a b c d, dO (g a b c d) fun q : aK × Rdr => q.1.1 = number := fun a b c d => hg (a, b, c, d)
  show dO (qJ N (sN N g b number t0 t1 k) (nY N) b number t0 t1 k g s.1 s.2.1 s.2.2.1 s.2.2.2) _
  unfold qJ
  repeat (first | exact dO.no | exact dO.some rfl | exact hg' _ _ _ _ | exact dn4 _ _ _ _ _ _ | exact dn2 hg' _ _ _ | refine dO.by' ?_ ?_ | refine dO.ob fun _ => ?_)) n (x, l, y, w)
theorem ayE {N : Nat} (r : Rdr) (b : af) (number : Int) : dO (Uj N r b number) fun q => q.1.1 = number := by
 unfold Uj YP
 repeat (first | exact dO.no | exact dO.some rfl | exact dn4 _ _ _ _ _ _ | exact dn0 _ _ _ _ _ | refine dO.by' ?_ ?_ | refine dO.ob fun _ => ?_)
def nb (z : Int) : Prop := -2 ≤ z ∧ z ≤ 2000000
theorem axL {N : Nat} {w : aK} {p : Int × Rdr} {a b c : Int} (h : nb w.1) (n : Nat) (i : Int) (l : List Txt) : dO (Yz N w p a b c n i l) fun q => nb q.1.1 :=
 vN (σ := Int × List Txt) (fun (g : Int → List Txt → Option (aK × Rdr)) s => g s.1 s.2) (fun s => dO.no) (fun g hg s => by
  have hg' : ∀ i w, dO (g i w) fun q : aK × Rdr => nb q.1.1 := fun i w => hg (i, w)
  show dO (wQ N w p a b c g s.1 s.2) _
  unfold wQ
  repeat (first | exact dO.no | exact dO.some h | exact hg' _ _ | refine dO.by' ?_ ?_ | refine dO.ob fun _ => ?_)) n (i, l)
theorem ax8 {N : Nat} {w : aK} (hw : smW w) (r : Rdr) (h : nb w.1) : dO (aap N r w) fun q => nb q.1.1 := by
 unfold aap ahJ
 rw [au (Ll hw)]
 repeat (first | exact dO.no | exact dO.some h | exact dO.some (Jc (P := nb) (by unfold nb; decide) (by unfold nb; decide)) | exact axL h _ _ _ | refine dO.by' ?_ ?_ | refine dO.ob fun _ => ?_)
theorem ofN {N : Nat} {c : Int} {r : Rdr} (hr : rdG c r) (hc : c ≤ 999999999000) {b : af} (hbk : bf b = true) : dL (zZ N r b) fun q => rdG (c + 2) q.2 ∧ nb q.1 := by
 have o := (fP.1 hbk).seen
 have h4 : ∀ z ∈ ([0, -1, b.2.2.2.2, IntKind.i64.wrap (b.2.2.2.2 + 1)] : List Int), nb z := by
  rw [wr (by omega) (by omega)]
  intro z hz
  unfold nb
  simp only [List.mem_cons, List.not_mem_nil, or_false] at hz
  omega
 have last : ∀ {c' : Int} {r' : Rdr}, rdG c' r' → c' ≤ c + 1 → dL (ob (gK N r' 4) (Int.ofNat 0, [], Int.ofNat 0) fun q => bif decide (0 ≤ q.1) then (bif decide (q.1 < (([0, -1, b.2.2.2.2, IntKind.i64.wrap (b.2.2.2.2 + 1)].length : Nat) : Int)) then some ([0, -1, b.2.2.2.2, IntKind.i64.wrap (b.2.2.2.2 + 1)].getD q.1.toNat (Int.ofNat 0), q.2) else none) else none) fun q => rdG (c + 2) q.2 ∧ nb q.1 := fun {c' r'} h hc' =>
  (fK h (by omega) (by omega)).ob fun q hq => gIf hq.1 (gIf (by simp only [List.length_cons, List.length_nil]; omega) (.some ⟨hq.2.2.mono (by omega), Jc h4 (by unfold nb; decide)⟩))
 unfold zZ Ze
 refine rf (fun h => ?_) fun _ => last hr (by omega)
 refine (fK hr (by omega) (by omega)).ob fun k hk => rf (fun _ => ?_) fun _ => last hk.2.2 (by omega)
 refine (fK hk.2.2 (by omega) (show (1 : Int) ≤ (b.2.2.2.1.length : Int) by omega)).ob fun j hj => gIf hj.1 (gIf hj.2.1 (.some ⟨hj.2.2.mono (by omega), ?_⟩))
 have hlt : j.1.toNat < b.2.2.2.1.length := by omega
 show nb (b.2.2.2.1.getD j.1.toNat bU).1.1
 rw [h_ hlt]
 have := E_ hbk (List.getElem_mem hlt)
 unfold nb; omega
theorem ayz {N : Nat} (hN : lim < N) {b : af} (h : bf b = true) {c : Int} {r : Rdr} (hr : rdG c r) (hc : c ≤ 999999930000) : dL (Ti N r b) fun q => (rdG (c + 1200) q.2 ∧ awf q.1) ∧ nb q.1.1.1 ∧ nb q.1.2.1 ∧ nb q.1.2.2.1 := by
 have hb := GI h
 have o := (fP.1 h).seen
 have z0 : nb 0 := by unfold nb; decide
 refine (awW hN hb hb.2.2.2.1.2 hr hc).and ?_
 unfold Ti
 have of : ∀ {α : Type} {c : Int} {r : Rdr} {d : Int × Rdr} {B : Int × Rdr → Option α} {P : α → Prop}, rdG c r → c ≤ 999999999000 → (∀ a, rdG (c + 2) a.2 → nb a.1 → dO (B a) P) → dO (ob (zZ N r b) d B) P := fun hr hc hB => by
  obtain ⟨a, e, h1, h2⟩ := ofN (N := N) hr hc h
  rw [e]
  exact hB a h1 h2
 have pk : ∀ {α : Type} {c n : Int} {r : Rdr} {d : Int × Rdr} {B : Int × Rdr → Option α} {P : α → Prop}, rdG c r → c ≤ 1000000000000 → 1 ≤ n → (∀ a, 0 ≤ a.1 → a.1 < n → rdG (c + 1) a.2 → dO (B a) P) → dO (ob (gK N r n) d B) P := fun hr hc hn hB => by
  obtain ⟨a, e, h1, h2, h3⟩ := fK (N := N) hr hc hn
  rw [e]
  exact hB a h1 h2 h3
 refine pk hr (by omega) (by omega) fun p hp0 hp1 hp => dO.by' ?_ (dO.by' ?_ (dO.by' ?_ (dO.by' ?_ ?_)))
 ·exact of hp (by omega) fun q hq hn => dO.some ⟨z0, hn, z0⟩
 ·exact of hp (by omega) fun q hq hn => dO.some ⟨z0, hn, z0⟩
 ·exact of hp (by omega) fun q hq hn => dO.ob fun _ => dO.ob fun _ => dO.some ⟨z0, z0, hn⟩
 ·exact of hp (by omega) fun q hq hn => dO.ob fun _ => dO.ob fun _ => dO.some ⟨z0, z0, hn⟩
 ·refine pk hp (by omega) (by omega) fun q hq0 hq1 hq => ?_
  obtain ⟨w, ew, ⟨hw1, hw2⟩, hw3⟩ := (arh hN hb hq (by omega) (IntKind.i64.wrap (IntKind.i64.wrap (b.2.2.2.2 + 1) + q.1))).and (ayE _ _ _)
  rw [au ew]
  have hwn : nb w.1.1 := by
   rw [hw3, wr (n := b.2.2.2.2 + 1) (by omega) (by omega), wr (by omega) (by omega)]
   unfold nb; omega
  refine pk hw1 (by omega) (by omega) fun k hk0 hk1 hk => dO.by' ?_ (dO.by' ?_ (dO.by' (dO.dec (fun hpos => ?_) fun _ => ?_) ?_))
  ·rw [wr (n := b.2.2.2.2 + 1) (by omega) (by omega)]
   refine pk hk (by omega) (by omega) fun n hn0 hn1 hn => dO.some ⟨?_, z0, z0⟩
   show nb (IntKind.i64.wrap (1 + n.1))
   rw [wr (by omega) (by omega)]
   unfold nb; omega
  ·obtain ⟨x, ex, hx⟩ : ∃ x, aap N k.2 w.1 = some x ∧ nb x.1.1 := by
    obtain ⟨x, ex, _, hx⟩ := (NZ hN hw2 hk (by omega)).and (ax8 (hw2.sm (by omega)) _ hwn)
    exact ⟨x, ex, hx⟩
   rw [au ex]
   exact dO.some ⟨hx, z0, z0⟩
  ·refine pk hk (by omega) (show (1 : Int) ≤ (b.2.2.2.1.length : Int) by omega) fun n hn0 hn1 hn => dO.by' (dO.by' ?_ dO.no) dO.no
   have hlt : n.1.toNat < b.2.2.2.1.length := by omega
   have hg : b.2.2.2.1.getD n.1.toNat bU = b.2.2.2.1[n.1.toNat] := h_ hlt _
   have hm : mdW 100 (b.2.2.2.1.getD n.1.toNat bU).1 := by rw [hg]; exact hb.2.2.2.1.2 _ (List.getElem_mem hlt)
   rw [au (Ll (hm.sm (by omega)))]
   refine dO.some ⟨?_, z0, z0⟩
   show nb (b.2.2.2.1.getD n.1.toNat bU).1.1
   rw [hg]
   have := E_ h (List.getElem_mem hlt)
   unfold nb; omega
  ·exact dO.some ⟨hwn, z0, z0⟩
  ·exact dO.some ⟨hwn, z0, z0⟩
end Go.MC
namespace Go.MC
open Go.MC.F
def qp (b : af) (ws : List Txt) : af × Txt :=
 bif ws.getD 0 [] == [102, 111, 101] && (ws.length : Int) == 3 then p_ b (b.1 ++ [(ws.getD 1 [], ws.getD 2 [])], b.2) else
 bif ws.getD 0 [] == [115, 112, 111, 116] && (ws.length : Int) == 5 then p_ b (aeG b ws) else
 bif ws.getD 0 [] == [118, 97, 108, 118, 101, 115] && (ws.length : Int) == 2 then p_ b (b.1, b.2.1, eX (ws.getD 1 []), b.2.2.2) else
 bif ws.getD 0 [] == [109, 111, 118, 101] && (ws.length : Int) == 6 then lJ (jL b (qL (ws.getD 2 []), 1, eX (ws.getD 1 []), BQ (ws.getD 3 []), eX (ws.getD 4 []), eX (ws.getD 5 []))) else
 bif ws.getD 0 [] == [99, 108, 101, 97, 110] && (ws.length : Int) == 5 then lJ (jL b (qL (ws.getD 1 []), 2, [], BQ (ws.getD 2 []), eX (ws.getD 3 []), eX (ws.getD 4 []))) else
 bif ws.getD 0 [] == [112, 101, 114, 109, 105, 116] && (ws.length : Int) == 5 then lJ (jL b (qL (ws.getD 1 []), 3, [], BQ (ws.getD 2 []), eX (ws.getD 3 []), eX (ws.getD 4 []))) else
 bif ws.getD 0 [] == [115, 116, 111, 112] && (ws.length : Int) == 2 then lJ (oN b (qL (ws.getD 1 []))) else
 bif ws.getD 0 [] == [111, 118, 101, 114] && (ws.length : Int) == 3 then lJ (mr b (qL (ws.getD 1 [])) (qL (ws.getD 2 [])) false) else
 bif ws.getD 0 [] == [99, 108, 101, 97, 110, 101, 100] && (ws.length : Int) == 2 then lJ (mr b (qL (ws.getD 1 [])) 0 true) else
 bif ws.getD 0 [] == [115, 104, 111, 119] && (ws.length : Int) == 2 then (b, R_ b (ws.getD 1 [])) else
 bif ws.getD 0 [] == [118, 97, 108, 118, 101] && (ws.length : Int) == 2 then (b, RJ b (ws.getD 1 [])) else (b, [98, 97, 100])
theorem iW {a : Bool} {n k : Nat} (h : (a && ((n : Int) == (k : Int))) = true) : n = k := by
 simp only [Bool.and_eq_true, beq_iff_eq] at h
 omega
theorem ak6 {b : af} (h : bf b = true) {ws : List Txt} (hw : xU ws) : smB (b.1 ++ [(ws.getD 1 [], ws.getD 2 [])], b.2) := by
 obtain ⟨h1, h2, h3⟩ := kU h
 have hs := xJ h
 have w1 := hw.at 1
 have w2 := hw.at 2
 refine ⟨⟨by show (b.1 ++ [(ws.getD 1 [], ws.getD 2 [])]).length ≤ _; simp only [ayQ]; omega, fun f hf => ?_⟩, hs.2⟩
 rcases List.mem_append.1 hf with hf | hf
 ·exact hs.1.2 f hf
 ·obtain rfl := List.mem_singleton.1 hf
  exact ⟨show (ws.getD 1 []).length ≤ 1048576 by omega, show (ws.getD 2 []).length ≤ 1048576 by omega⟩
theorem Xr {b : af} (h : bf b = true) {ws : List Txt} (hw : xU ws) : smB (b.1, b.2.1, eX (ws.getD 1 []), b.2.2.2) := by
 have hs := xJ h
 exact ⟨hs.1, hs.2.1, pW (hw.at 1), hs.2.2.2⟩
theorem uU {ws : List Txt} (hw : xU ws) (n k : Int) {st : List Txt} (hst : smL st) (i j l : Nat) : smW (n, k, st, BQ (ws.getD i []), eX (ws.getD j []), eX (ws.getD l [])) :=
 ⟨hst, anm (hw.at i), pW (hw.at j), pW (hw.at l)⟩
theorem YX : smL [] := ⟨by simp, fun x h => by simp at h⟩
theorem JL (ws : List Txt) (i k : Nat) : (ws.drop i).getD k [] = ws.getD (i + k) [] := by
 simp [List.getD_eq_getElem?_getD, List.getElem?_drop]
theorem ayw {N : Nat} (hN : lim < N) {b : af} (h : bf b = true) {ws : List Txt} (hw : xU ws) (hl : ws.length = 3) : ZT N b ws = some (p_ b (b.1 ++ [(ws.getD 1 [], ws.getD 2 [])], b.2)) := by
 have hlim := aY
 obtain ⟨h1, h2, h3⟩ := kU h
 unfold ZT
 rw [au (vK hN (xJ h)), decide_eq_true (show (1 : Int) < (ws.length : Int) by omega), decide_eq_true (show (2 : Int) < (ws.length : Int) by omega), decide_eq_true (show (List.length b.1 + 1) * 32 ≤ lim by omega)]
 simp only [cond_true]
 exact au (aeM hN b (ak6 h hw))
theorem KJ {N : Nat} (hN : lim < N) {b : af} (h : bf b = true) (w : aK) : uV N (jL b w).1 (jL b w).2 = some (lJ (jL b w)) := by
 obtain ⟨h0, h1, _⟩ := lw (yJ h w)
 exact afF _ h0 h1
theorem aqX {N : Nat} (hN : lim < N) {b : af} (h : bf b = true) (n : Int) : uV N (oN b n).1 (oN b n).2 = some (lJ (oN b n)) := by
 obtain ⟨h0, h1, _⟩ := lw (Zj h n)
 exact afF _ h0 h1
theorem abX {N : Nat} (hN : lim < N) {b : af} (h : bf b = true) (n m : Int) (d : Bool) : uV N (mr b n m d).1 (mr b n m d).2 = some (lJ (mr b n m d)) := by
 obtain ⟨h0, h1, _⟩ := lw (Qn h n m d)
 exact afF _ h0 h1
theorem ara {N : Nat} (hN : lim < N) {b : af} (h : bf b = true) {ws : List Txt} (hl : ws.length = 2) :
 (ob (ajY N b (ws.getD 1 [])) (Int.ofNat 0) fun r_25 => ob (jO N r_25) [] fun r_26 => bif decide (List.length r_26 + 1 ≤ lim) then
  (bif decide ((1 : Int) < (ws.length : Int)) then (ob (ajE N b (ws.getD 1 [])) [] fun r_27 => ob (XM N r_27) [] fun r_28 => bif decide (List.length (r_26 ++ [32]) + List.length r_28 ≤ lim) then (some (b, r_26 ++ [32] ++ r_28)) else none) else none) else none) = some (b, RJ b (ws.getD 1 [])) := by
 have hlim := aY
 have hs := xJ h
 obtain ⟨m0, m1⟩ := Zt h (ws.getD 1 [])
 obtain ⟨s1, s2⟩ := SH h (ws.getD 1 [])
 have l1 := gY (n := Fv b (ws.getD 1 [])) m0 (by omega)
 have l2 := Rf h (ws.getD 1 [])
 rw [au (atr hN hs _), au (SY m0 (by omega)), decide_eq_true (by omega), decide_eq_true (show (1 : Int) < (ws.length : Int) by omega)]
 simp only [cond_true]
 rw [au (aoC hN hs _), au (axV hN (by omega) s2), decide_eq_true (by rw [List.length_append]; simp only [List.length_cons, List.length_nil]; omega)]
 rfl
set_option maxHeartbeats 1000000 in
theorem ari {N : Nat} (hN : lim < N) {b : af} (h : bf b = true) {ws : List Txt} (hw : xU ws) (hl : 0 < ws.length) : Xd N b ws = some (qp b ws) := by
 have hlim := aY
 have hs := xJ h
 have w1 := hw.at 1
 have hd : ∀ k, ∀ x ∈ ws.drop k, x.length ≤ 1000000 := fun k x hx => by have := hw x (List.mem_of_mem_drop hx); omega
 have g0 : decide ((0 : Int) < (ws.length : Int)) = true := decide_eq_true (by omega)
 unfold Xd qp
 simp only [g0, cond_true, show Int.toNat 0 = 0 from rfl, show Int.toNat 1 = 1 from rfl, show Int.toNat 2 = 2 from rfl, Int.toNat_natCast, List.take_length]
 cases c1 : ws.getD 0 [] == [102, 111, 101] && (ws.length : Int) == 3 with
 | true => exact au (ayw hN h hw (iW (k := 3) c1))
 | false =>
 simp only [cond_false]
 cases c2 : ws.getD 0 [] == [115, 112, 111, 116] && (ws.length : Int) == 5 with
 | true => exact au (awr hN h hw (iW (k := 5) c2))
 | false =>
 simp only [cond_false]
 cases c3 : ws.getD 0 [] == [118, 97, 108, 118, 101, 115] && (ws.length : Int) == 2 with
 | true =>
  have hl := iW (k := 2) c3
  simp only [cond_true]
  rw [au (vK hN hs), decide_eq_true (show (1 : Int) < (ws.length : Int) by omega), cond_true, au (wR hN (s := ws.getD 1 []) (by omega))]
  exact au (aeM hN b (Xr h hw))
 | false =>
 simp only [cond_false]
 cases c4 : ws.getD 0 [] == [109, 111, 118, 101] && (ws.length : Int) == 6 with
 | true =>
  have hl := iW (k := 6) c4
  simp only [cond_true]
  rw [decide_eq_true (show (1 : Int) < (ws.length : Int) by omega), decide_eq_true (show (2 : Int) ≤ (ws.length : Int) by omega), dle (Nat.le_refl ws.length)]
  simp only [cond_true]
  rw [au (aer hN 1 (st := ws.getD 1 []) (ws := ws.drop 2) (by rw [List.length_drop]; omega) (by omega) (hd 2))]
  simp only [JL]
  rw [au (Bi hN hs (uU hw _ _ (pW (hw.at 1)) _ _ _))]
  exact au (KJ hN h _)
 | false =>
 simp only [cond_false]
 cases c5 : ws.getD 0 [] == [99, 108, 101, 97, 110] && (ws.length : Int) == 5 with
 | true =>
  have hl := iW (k := 5) c5
  simp only [cond_true]
  rw [decide_eq_true (show (1 : Int) ≤ (ws.length : Int) by omega), dle (Nat.le_refl ws.length)]
  simp only [cond_true]
  rw [au (aer hN 2 (st := [45]) (ws := ws.drop 1) (by rw [List.length_drop]; omega) (by decide) (hd 1))]
  simp only [JL]
  rw [show eX [45] = [] from rfl, au (Bi hN hs (uU hw _ _ YX _ _ _))]
  exact au (KJ hN h _)
 | false =>
 simp only [cond_false]
 cases c6 : ws.getD 0 [] == [112, 101, 114, 109, 105, 116] && (ws.length : Int) == 5 with
 | true =>
  have hl := iW (k := 5) c6
  simp only [cond_true]
  rw [decide_eq_true (show (1 : Int) ≤ (ws.length : Int) by omega), dle (Nat.le_refl ws.length)]
  simp only [cond_true]
  rw [au (aer hN 3 (st := [45]) (ws := ws.drop 1) (by rw [List.length_drop]; omega) (by decide) (hd 1))]
  simp only [JL]
  rw [show eX [45] = [] from rfl, au (Bi hN hs (uU hw _ _ YX _ _ _))]
  exact au (KJ hN h _)
 | false =>
 simp only [cond_false]
 cases c7 : ws.getD 0 [] == [115, 116, 111, 112] && (ws.length : Int) == 2 with
 | true =>
  have hl := iW (k := 2) c7
  simp only [cond_true]
  rw [decide_eq_true (show (1 : Int) < (ws.length : Int) by omega), cond_true, au (jY hN _), au (acB hN hs _)]
  exact au (aqX hN h _)
 | false =>
 simp only [cond_false]
 cases c8 : ws.getD 0 [] == [111, 118, 101, 114] && (ws.length : Int) == 3 with
 | true =>
  have hl := iW (k := 3) c8
  simp only [cond_true]
  rw [decide_eq_true (show (1 : Int) < (ws.length : Int) by omega), cond_true, au (jY hN _), decide_eq_true (show (2 : Int) < (ws.length : Int) by omega), cond_true, au (jY hN _), au (Sl hN hs _ _ _)]
  exact au (abX hN h _ _ _)
 | false =>
 simp only [cond_false]
 cases c9 : ws.getD 0 [] == [99, 108, 101, 97, 110, 101, 100] && (ws.length : Int) == 2 with
 | true =>
  have hl := iW (k := 2) c9
  simp only [cond_true]
  rw [decide_eq_true (show (1 : Int) < (ws.length : Int) by omega), cond_true, au (jY hN _), au (Sl hN hs _ _ _)]
  exact au (abX hN h _ _ _)
 | false =>
 simp only [cond_false]
 cases c10 : ws.getD 0 [] == [115, 104, 111, 119] && (ws.length : Int) == 2 with
 | true =>
  have hl := iW (k := 2) c10
  simp only [cond_true]
  rw [decide_eq_true (show (1 : Int) < (ws.length : Int) by omega), cond_true]
  exact au (ax0 hN h _)
 | false =>
 simp only [cond_false]
 cases c11 : ws.getD 0 [] == [118, 97, 108, 118, 101] && (ws.length : Int) == 2 with
 | true =>
  have hl := iW (k := 2) c11
  simp only [cond_true]
  rw [decide_eq_true (show (1 : Int) < (ws.length : Int) by omega), cond_true]
  have hv := ara hN h (ws := ws) hl
  rw [decide_eq_true (show (1 : Int) < (ws.length : Int) by omega)] at hv
  exact hv
 | false => rfl
end Go.MC
namespace Go.MC
open Go.MC.F
theorem apC {N : Nat} (hN : lim < N) {b s : af} (h : bf b = true) (n : Txt) :
 (ob (IX N b n) (Int.ofNat 0) fun r_40 =>
  bif decide (r_40 < 0) then (some (([110, 111, 110, 101] : Txt), s))
  else (bif decide (0 ≤ r_40) then (bif decide (r_40 < (↑(List.length b.2.1) : Int)) then
   (ob (strconv_Itoa N (List.getD b.2.1 (Int.toNat r_40) aJ).2.2.1) [] fun r_41 =>
   bif decide (List.length r_41 + [45].length ≤ lim) then
   (ob (strconv_Itoa N (List.getD b.2.1 (Int.toNat r_40) aJ).2.2.2.1) [] fun r_42 =>
   bif decide (List.length (r_41 ++ [45]) + List.length r_42 ≤ lim) then
   (bif decide (List.length (r_41 ++ [45] ++ r_42) + [32, 111, 102, 32].length ≤ lim) then
   (ob (strconv_Itoa N (List.getD b.2.1 (Int.toNat r_40) aJ).2.1) [] fun r_43 =>
   bif decide (List.length (r_41 ++ [45] ++ r_42 ++ [32, 111, 102, 32]) + List.length r_43 ≤ lim) then
   (bif decide (List.length (r_41 ++ [45] ++ r_42 ++ [32, 111, 102, 32] ++ r_43) + [32].length ≤ lim) then
   (ob (NE N (List.getD b.2.1 (Int.toNat r_40) aJ).2.2.2.2) [] fun r_44 =>
   bif decide (List.length (r_41 ++ [45] ++ r_42 ++ [32, 111, 102, 32] ++ r_43 ++ [32]) + List.length r_44 ≤ lim) then
   (some (r_41 ++ [45] ++ r_42 ++ [32, 111, 102, 32] ++ r_43 ++ [32] ++ r_44, s)) else none) else none) else none) else none) else none) else none) else none) else none)) = some (R_ b n, s) := by
 have hlim := aY
 have hs := xJ h
 unfold R_
 rw [au (Dq hN hs.2.1.1 n)]
 cases hn : decide (atB b n < 0) with
 | true => rfl
 | false =>
  have h0 : 0 ≤ atB b n := by have := of_decide_eq_false hn; omega
  obtain ⟨k, hk, hlt, hsp⟩ := anK b h0
  obtain ⟨a1, a2, a3, a4, a5, a6⟩ := OH h (List.getElem_mem hlt)
  have l1 := gY a1.1 (by omega)
  have l2 := gY a2.1 (by omega)
  have l3 := gY a3.1 (by omega)
  have l4 := I8 a5
  have l5 : b.2.1[k].2.2.2.2.length * (8 + 1) ≤ 8 * 9 := Nat.mul_le_mul_right _ a4
  rw [hsp, hk]
  simp only [dlt hlt, dge, cond_true, cond_false, gAt hlt]
  simp only [au (uk (N := N) a2.1 (show b.2.1[k].2.2.1 < 1000000000000000000 by omega)), au (uk (N := N) a3.1 (show b.2.1[k].2.2.2.1 < 1000000000000000000 by omega)), au (uk (N := N) a1.1 (show b.2.1[k].2.1 < 1000000000000000000 by omega)), au (abS (N := N) (l := b.2.1[k].2.2.2.2) (by omega) (fun x hx => Nat.le_trans (a5 x hx) (by decide))), List.length_append, List.length_cons, List.length_nil]
  rw [decide_eq_true (by omega), decide_eq_true (by omega), decide_eq_true (by omega), decide_eq_true (by omega), decide_eq_true (by omega), decide_eq_true (by omega)]
  rfl
theorem ajx {N : Nat} (hN : lim < N) {b : af} (h : bf b = true) {ws : List Txt} (hl : ws.length = 2) : YO N b ws (oL b (ws.getD 1 [])) ((oL b (ws.getD 1 [])).length : Int) N 0 [] = some (RJ b (ws.getD 1 []), b) := by
 have hlim := aY
 have hs := xJ h
 obtain ⟨m0, m1⟩ := Zt h (ws.getD 1 [])
 obtain ⟨s1, s2⟩ := SH h (ws.getD 1 [])
 obtain ⟨f1, f2⟩ := Cc s2
 have l1 := gY (n := Fv b (ws.getD 1 [])) m0 (by omega)
 have l2 := Rf h (ws.getD 1 [])
 refine (OO (l := oL b (ws.getD 1 [])) Lib.itoa (fun out => ob (NE N out) [] fun r_49 => bif decide (List.length (Lib.itoa (Fv b (ws.getD 1 [])) ++ [32]) + List.length r_49 ≤ lim) then (some (Lib.itoa (Fv b (ws.getD 1 [])) ++ [32] ++ r_49, b)) else none) (fun g i out hi ho => ?_) (fun g out => ?_) (by omega)).trans ?_
 ·have hn := s2 _ (List.getElem_mem hi)
  unfold Oz
  simp only [dlt hi, dge, cond_true, gAt hi, wrS (i := i) (by omega)]
  rw [au (uk hn.1 (by omega)), decide_eq_true (show (out.length + [Lib.itoa (oL b (ws.getD 1 []))[i]].length) * 16 ≤ lim by simp only [List.length_cons, List.length_nil]; omega), cond_true]
 ·unfold Oz
  simp only [d_, cond_false, decide_eq_true (show (1 : Int) < (ws.length : Int) by omega), cond_true, show Int.toNat 1 = 1 from rfl]
  rw [au (atz hN hs _), au (uk m0 (by omega)), decide_eq_true (show (Lib.itoa (Fv b (ws.getD 1 []))).length + [32].length ≤ lim by simp only [List.length_cons, List.length_nil]; omega), cond_true]
 ·rw [au (abS (by rw [List.length_map]; omega) (fun x hx => Nat.le_trans (f1 x hx) (by decide)))]
  have l3 : (Fe ((oL b (ws.getD 1 [])).map Lib.itoa)).length ≤ 115 := l2
  rw [decide_eq_true (by rw [List.length_append]; simp only [List.length_cons, List.length_nil]; omega)]
  rfl
theorem obS {α : Type} (o : Option α) {d x : α} (h : o = some x) : ob o d (fun r => some r) = some x := by rw [h]; rfl
theorem LJ {N : Nat} {b : af} (h : bf b = true) (w : aK) : LV N b (jL b w).1 (jL b w).2 = some ((lJ (jL b w)).2, (lJ (jL b w)).1) := by
 obtain ⟨h0, h1, h2⟩ := lw (yJ h w)
 exact TZ _ _ h0 h1 fun e => absurd e h2
theorem aqZ {N : Nat} {b : af} (h : bf b = true) (n : Int) : LV N b (oN b n).1 (oN b n).2 = some ((lJ (oN b n)).2, (lJ (oN b n)).1) := by
 obtain ⟨h0, h1, h2⟩ := lw (Zj h n)
 exact TZ _ _ h0 h1 fun e => absurd e h2
theorem abv {N : Nat} {b : af} (h : bf b = true) (n m : Int) (d : Bool) : LV N b (mr b n m d).1 (mr b n m d).2 = some ((lJ (mr b n m d)).2, (lJ (mr b n m d)).1) := by
 obtain ⟨h0, h1, h2⟩ := lw (Qn h n m d)
 exact TZ _ _ h0 h1 fun e => absurd e h2
set_option maxHeartbeats 1000000 in
theorem aox {N : Nat} (hN : lim < N) {b : af} (h : bf b = true) {line : Txt} (hline : line.length ≤ 10000) : aj_ N b line = some ((qp b (fJ 32 line)).2, (qp b (fJ 32 line)).1) := by
 have hlim := aY
 have hs := xJ h
 have hw : xU (fJ 32 line) := fun x hx => Nat.le_trans (yT hx) hline
 have hl : 0 < (fJ 32 line).length := by rw [jV 32 _ line (Nat.le_refl _)]; omega
 unfold aj_ arj
 rw [au (KL (by omega) 32)]
 generalize fJ 32 line = ws at hw hl ⊢
 have w1 := hw.at 1
 have w2 := hw.at 2
 have w3 := hw.at 3
 have w4 := hw.at 4
 have w5 := hw.at 5
 have g0 : decide ((0 : Int) < (ws.length : Int)) = true := decide_eq_true (by omega)
 obtain ⟨hb1, hb2, hb3⟩ := kU h
 rw [au (EK hN hs)]
 unfold qp
 simp only [g0, cond_true, show Int.toNat 0 = 0 from rfl, show Int.toNat 1 = 1 from rfl, show Int.toNat 2 = 2 from rfl, show Int.toNat 3 = 3 from rfl, show Int.toNat 4 = 4 from rfl, show Int.toNat 5 = 5 from rfl]
 cases c1 : ws.getD 0 [] == [102, 111, 101] && (ws.length : Int) == 3 with
 | true =>
  have hl := iW (k := 3) c1
  simp only [cond_true]
  rw [decide_eq_true (show (1 : Int) < (ws.length : Int) by omega), decide_eq_true (show (2 : Int) < (ws.length : Int) by omega), decide_eq_true (show (List.length b.1 + [(ws.getD 1 [], ws.getD 2 [])].length) * 32 ≤ lim by simp only [List.length_cons, List.length_nil]; omega)]
  exact obS _ (z_ hN b (ak6 h hw))
 | false =>
 simp only [cond_false]
 cases c2 : ws.getD 0 [] == [115, 112, 111, 116] && (ws.length : Int) == 5 with
 | true =>
  have hl := iW (k := 5) c2
  simp only [cond_true]
  rw [au (aoM h (ws := ws) (by omega)), decide_eq_true (show (3 : Int) < (ws.length : Int) by omega), cond_true, au (iP hN _), decide_eq_true (show (1 : Int) < (ws.length : Int) by omega), decide_eq_true (show (2 : Int) < (ws.length : Int) by omega), cond_true, cond_true, au (iP hN _), decide_eq_true (show (4 : Int) < (ws.length : Int) by omega), cond_true, au (kP (s := ws.getD 4 []) (by omega)), au (asz (alh b.2.1 _) hb2 _)]
  exact obS _ (z_ hN b (agE h hw))
 | false =>
 simp only [cond_false]
 cases c3 : ws.getD 0 [] == [118, 97, 108, 118, 101, 115] && (ws.length : Int) == 2 with
 | true =>
  have hl := iW (k := 2) c3
  simp only [cond_true]
  rw [decide_eq_true (show (1 : Int) < (ws.length : Int) by omega), cond_true, au (kP (s := ws.getD 1 []) (by omega))]
  exact obS _ (z_ hN b (Xr h hw))
 | false =>
 simp only [cond_false]
 cases c4 : ws.getD 0 [] == [109, 111, 118, 101] && (ws.length : Int) == 6 with
 | true =>
  have hl := iW (k := 6) c4
  simp only [cond_true]
  rw [decide_eq_true (show (2 : Int) < (ws.length : Int) by omega), cond_true, au (iP hN _), decide_eq_true (show (1 : Int) < (ws.length : Int) by omega), cond_true, au (kP (s := ws.getD 1 []) (by omega)), decide_eq_true (show (3 : Int) < (ws.length : Int) by omega), cond_true, au (Uo hN (s := ws.getD 3 []) (by omega)), decide_eq_true (show (4 : Int) < (ws.length : Int) by omega), cond_true, au (kP (s := ws.getD 4 []) (by omega)), decide_eq_true (show (5 : Int) < (ws.length : Int) by omega), cond_true, au (kP (s := ws.getD 5 []) (by omega)), au (Na hN hs (uU hw _ _ (pW w1) _ _ _))]
  exact obS _ (LJ h _)
 | false =>
 simp only [cond_false]
 cases c5 : ws.getD 0 [] == [99, 108, 101, 97, 110] && (ws.length : Int) == 5 with
 | true =>
  have hl := iW (k := 5) c5
  have e0 : ws.getD 0 [] = [99, 108, 101, 97, 110] := by
   simp only [Bool.and_eq_true] at c5
   exact beq_iff_eq.1 c5.1
  have e5 : ((ws.length : Int) == 5) = true := by
   simp only [Bool.and_eq_true] at c5
   exact c5.2
  simp only [cond_true]
  rw [e0, e5]
  rw [show ((([99, 108, 101, 97, 110] : Txt) == [99, 108, 101, 97, 110] || ([99, 108, 101, 97, 110] : Txt) == [112, 101, 114, 109, 105, 116]) && true) = true from rfl, show (([99, 108, 101, 97, 110] : Txt) == [112, 101, 114, 109, 105, 116]) = false from rfl]
  simp only [cond_true, cond_false]
  rw [decide_eq_true (show (1 : Int) < (ws.length : Int) by omega), cond_true, au (iP hN _), decide_eq_true (show (2 : Int) < (ws.length : Int) by omega), cond_true, au (Uo hN (s := ws.getD 2 []) (by omega)), decide_eq_true (show (3 : Int) < (ws.length : Int) by omega), cond_true, au (kP (s := ws.getD 3 []) (by omega)), decide_eq_true (show (4 : Int) < (ws.length : Int) by omega), cond_true, au (kP (s := ws.getD 4 []) (by omega)), au (Na hN hs (uU hw _ _ YX _ _ _))]
  exact obS _ (LJ h _)
 | false =>
 simp only [cond_false]
 cases c6 : ws.getD 0 [] == [112, 101, 114, 109, 105, 116] && (ws.length : Int) == 5 with
 | true =>
  have hl := iW (k := 5) c6
  have e0 : ws.getD 0 [] = [112, 101, 114, 109, 105, 116] := by
   simp only [Bool.and_eq_true] at c6
   exact beq_iff_eq.1 c6.1
  have e5 : ((ws.length : Int) == 5) = true := by
   simp only [Bool.and_eq_true] at c6
   exact c6.2
  simp only [cond_true]
  rw [e0, e5]
  rw [show ((([112, 101, 114, 109, 105, 116] : Txt) == [99, 108, 101, 97, 110] || ([112, 101, 114, 109, 105, 116] : Txt) == [112, 101, 114, 109, 105, 116]) && true) = true from rfl, show (([112, 101, 114, 109, 105, 116] : Txt) == [112, 101, 114, 109, 105, 116]) = true from rfl]
  simp only [cond_true, cond_false]
  rw [decide_eq_true (show (1 : Int) < (ws.length : Int) by omega), cond_true, au (iP hN _), decide_eq_true (show (2 : Int) < (ws.length : Int) by omega), cond_true, au (Uo hN (s := ws.getD 2 []) (by omega)), decide_eq_true (show (3 : Int) < (ws.length : Int) by omega), cond_true, au (kP (s := ws.getD 3 []) (by omega)), decide_eq_true (show (4 : Int) < (ws.length : Int) by omega), cond_true, au (kP (s := ws.getD 4 []) (by omega)), au (Na hN hs (uU hw _ _ YX _ _ _))]
  exact obS _ (LJ h _)
 | false =>
 simp only [cond_false]
 have c56 : ((ws.getD 0 [] == [99, 108, 101, 97, 110] || ws.getD 0 [] == [112, 101, 114, 109, 105, 116]) && (ws.length : Int) == 5) = false := by
  rw [Bool.and_or_distrib_right, c5, c6]; rfl
 rw [c56]
 simp only [cond_false]
 cases c7 : ws.getD 0 [] == [115, 116, 111, 112] && (ws.length : Int) == 2 with
 | true =>
  have hl := iW (k := 2) c7
  simp only [cond_true]
  rw [decide_eq_true (show (1 : Int) < (ws.length : Int) by omega), cond_true, au (iP hN _), au (amO hN hs _)]
  exact obS _ (aqZ h _)
 | false =>
 simp only [cond_false]
 cases c8 : ws.getD 0 [] == [111, 118, 101, 114] && (ws.length : Int) == 3 with
 | true =>
  have hl := iW (k := 3) c8
  simp only [cond_true]
  rw [decide_eq_true (show (1 : Int) < (ws.length : Int) by omega), cond_true, au (iP hN _), decide_eq_true (show (2 : Int) < (ws.length : Int) by omega), cond_true, au (iP hN _), au (Z_ hN hs _ _ _)]
  exact obS _ (abv h _ _ _)
 | false =>
 simp only [cond_false]
 cases c9 : ws.getD 0 [] == [99, 108, 101, 97, 110, 101, 100] && (ws.length : Int) == 2 with
 | true =>
  have hl := iW (k := 2) c9
  simp only [cond_true]
  rw [decide_eq_true (show (1 : Int) < (ws.length : Int) by omega), cond_true, au (iP hN _), au (Z_ hN hs _ _ _)]
  exact obS _ (abv h _ _ _)
 | false =>
 simp only [cond_false]
 cases c10 : ws.getD 0 [] == [115, 104, 111, 119] && (ws.length : Int) == 2 with
 | true =>
  have hl := iW (k := 2) c10
  simp only [cond_true]
  rw [decide_eq_true (show (1 : Int) < (ws.length : Int) by omega), cond_true]
  exact apC hN h _
 | false =>
 simp only [cond_false]
 cases c11 : ws.getD 0 [] == [118, 97, 108, 118, 101] && (ws.length : Int) == 2 with
 | true =>
  have hl := iW (k := 2) c11
  simp only [cond_true]
  rw [decide_eq_true (show (1 : Int) < (ws.length : Int) by omega), cond_true, au (alj hN hs _)]
  exact ajx hN h hl
 | false => rfl
end Go.MC
namespace Go.MC
open Go.MC.F
theorem Y4 {b c : af} (h : bf b = true) : bf (p_ b c).1 = true ∧ (p_ b c).2.length ≤ 200 := by
 unfold p_
 cases hc : bf c with
 | true => exact ⟨hc, show ([111, 107] : Txt).length ≤ 200 by decide⟩
 | false => exact ⟨h, show ([110, 111] : Txt).length ≤ 200 by decide⟩
theorem uP {r : af × Int} (h : C9 r.2) : (lJ r).2.length ≤ 200 := by
 obtain ⟨h0, h1, _⟩ := lw h
 have := gY h0 (by omega)
 unfold lJ
 simp only [ayQ]
 omega
theorem am9 {b : af} (h : bf b = true) (n : Txt) : (R_ b n).length ≤ 200 := by
 unfold R_
 cases hn : decide (atB b n < 0) with
 | true => show ([110, 111, 110, 101] : Txt).length ≤ 200; decide
 | false =>
  have h0 : 0 ≤ atB b n := by have := of_decide_eq_false hn; omega
  obtain ⟨k, hk, hlt, hsp⟩ := anK b h0
  obtain ⟨a1, a2, a3, a4, a5, a6⟩ := OH h (List.getElem_mem hlt)
  have l1 := gY a1.1 (by omega)
  have l2 := gY a2.1 (by omega)
  have l3 := gY a3.1 (by omega)
  have l4 := I8 a5
  have l5 : b.2.1[k].2.2.2.2.length * (8 + 1) ≤ 8 * 9 := Nat.mul_le_mul_right _ a4
  rw [hsp]
  simp only [cond_false, List.length_append, List.length_cons, List.length_nil]
  omega
theorem ajS {b : af} (h : bf b = true) (v : Txt) : (RJ b v).length ≤ 200 := by
 have hm := Zt h v
 have l1 := gY (n := Fv b v) hm.1 (by omega)
 have l2 := Rf h v
 unfold RJ
 simp only [ayQ]
 omega
theorem ays {α : Type} {P : α → Prop} {c : Bool} {x y : α} (hx : P x) (hy : P y) : P (bif c then x else y) := by
 cases c
 ·exact hy
 ·exact hx
theorem agZ {b : af} (h : bf b = true) (ws : List Txt) : bf (qp b ws).1 = true ∧ (qp b ws).2.length ≤ 200 := by
 have hP : ∀ {c : Bool} {x y : af × Txt}, (bf x.1 = true ∧ x.2.length ≤ 200) → (bf y.1 = true ∧ y.2.length ≤ 200) → (bf (bif c then x else y).1 = true ∧ (bif c then x else y).2.length ≤ 200) := fun hx hy => ays (P := fun x : af × Txt => bf x.1 = true ∧ x.2.length ≤ 200) hx hy
 unfold qp
 exact hP (Y4 h) (hP (Y4 h) (hP (Y4 h) (hP ⟨H6 h, uP (yJ h _)⟩ (hP ⟨H6 h, uP (yJ h _)⟩ (hP ⟨H6 h, uP (yJ h _)⟩ (hP ⟨ahq h, uP (Zj h _)⟩ (hP ⟨X6 h, uP (Qn h _ _ _)⟩ (hP ⟨X6 h, uP (Qn h _ _ _)⟩ (hP ⟨h, am9 h _⟩ (hP ⟨h, ajS h _⟩ ⟨h, show ([98, 97, 100] : Txt).length ≤ 200 by decide⟩))))))))))
def ahy (st : Txt × af) (line : Txt) : Txt × af := (st.1 ++ (qp st.2 (fJ 32 line)).2 ++ [10], (qp st.2 (fJ 32 line)).1)
def alW (lines : List Txt) : Txt := (lines.foldl ahy ([], ([], [], [], [], 0))).1
theorem ayr {N : Nat} (hN : lim < N) {lines : List Txt} (hl : lines.length ≤ 200) (hw : xU lines) : ∀ (d n i : Nat) (out : Txt) (b : af), i + d = lines.length → d < n → bf b = true → out.length ≤ i * 201 →
 CV N lines n out (i : Int) b.1 b.2.1 b.2.2.1 b.2.2.2.1 b.2.2.2.2 = some ((lines.drop i).foldl ahy (out, b)).1 := by
 have hlim := aY
 intro d
 induction d with
 | zero =>
  intro n i out b h1 h2 h3 h4
  obtain ⟨n, rfl⟩ : ∃ j, n = j + 1 := ⟨n - 1, by omega⟩
  show Bc N lines (CV N lines n) out (i : Int) b.1 b.2.1 b.2.2.1 b.2.2.2.1 b.2.2.2.2 = _
  have hi : i = lines.length := by omega
  subst hi
  unfold Bc
  rw [d_, cond_false, List.drop_length]
  rfl
 | succ d ih =>
  intro n i out b h1 h2 h3 h4
  obtain ⟨n, rfl⟩ : ∃ j, n = j + 1 := ⟨n - 1, by omega⟩
  show Bc N lines (CV N lines n) out (i : Int) b.1 b.2.1 b.2.2.1 b.2.2.2.1 b.2.2.2.2 = _
  have hi : i < lines.length := by omega
  have hx : lines[i].length ≤ 10000 := hw _ (List.getElem_mem hi)
  have hws : xU (fJ 32 lines[i]) := fun x hx' => Nat.le_trans (yT hx') hx
  have hpos : 0 < (fJ 32 lines[i]).length := by rw [jV 32 _ _ (Nat.le_refl _)]; omega
  obtain ⟨ok, hlen⟩ := agZ h3 (fJ 32 lines[i])
  unfold Bc
  rw [dlt hi]
  simp only [dge, cond_true, gAt hi]
  rw [au (aaW hN (s := lines[i]) (by omega) (c := 32) (k := 32) rfl)]
  rw [au (show Xd N (b.1, b.2.1, b.2.2.1, b.2.2.2.1, b.2.2.2.2) (fJ 32 lines[i]) = some (qp b (fJ 32 lines[i])) from ari hN h3 hws hpos)]
  rw [decide_eq_true (by omega), decide_eq_true (by rw [List.length_append]; simp only [List.length_cons, List.length_nil]; omega)]
  simp only [cond_true, wrS (i := i) (by omega)]
  rw [ih n (i + 1) _ (qp b (fJ 32 lines[i])).1 (by omega) (by omega) ok (by simp only [ayQ]; omega), List.drop_eq_getElem_cons hi, List.foldl_cons]
  rfl
theorem ayl {N : Nat} (hN : lim < N) {lines : List Txt} (hl : lines.length ≤ 200) (hw : xU lines) : ∀ (d n i : Nat) (out : Txt) (b : af), i + d = lines.length → d < n → bf b = true → out.length ≤ i * 201 →
 CP N lines (lines.length : Int) n out (i : Int) b.1 b.2.1 b.2.2.1 b.2.2.2.1 b.2.2.2.2 = some ((lines.drop i).foldl ahy (out, b)).1 := by
 have hlim := aY
 intro d
 induction d with
 | zero =>
  intro n i out b h1 h2 h3 h4
  obtain ⟨n, rfl⟩ : ∃ j, n = j + 1 := ⟨n - 1, by omega⟩
  show Bo N lines (lines.length : Int) (CP N lines (lines.length : Int) n) out (i : Int) b.1 b.2.1 b.2.2.1 b.2.2.2.1 b.2.2.2.2 = _
  have hi : i = lines.length := by omega
  subst hi
  unfold Bo
  rw [d_, cond_false, List.drop_length]
  rfl
 | succ d ih =>
  intro n i out b h1 h2 h3 h4
  obtain ⟨n, rfl⟩ : ∃ j, n = j + 1 := ⟨n - 1, by omega⟩
  show Bo N lines (lines.length : Int) (CP N lines (lines.length : Int) n) out (i : Int) b.1 b.2.1 b.2.2.1 b.2.2.2.1 b.2.2.2.2 = _
  have hi : i < lines.length := by omega
  have hx : lines[i].length ≤ 10000 := hw _ (List.getElem_mem hi)
  obtain ⟨ok, hlen⟩ := agZ h3 (fJ 32 lines[i])
  unfold Bo
  rw [dlt hi]
  simp only [dge, cond_true, gAt hi]
  rw [au (show aj_ N (b.1, b.2.1, b.2.2.1, b.2.2.2.1, b.2.2.2.2) lines[i] = some ((qp b (fJ 32 lines[i])).2, (qp b (fJ 32 lines[i])).1) from aox hN h3 hx)]
  simp only [ayQ]
  rw [decide_eq_true (by omega), decide_eq_true (by omega)]
  simp only [cond_true, wrS (i := i) (by omega)]
  rw [ih n (i + 1) _ (qp b (fJ 32 lines[i])).1 (by omega) (by omega) ok (by simp only [ayQ]; omega), List.drop_eq_getElem_cons hi, List.foldl_cons]
  unfold ahy
  rw [List.append_assoc]
def ag5 (text : Txt) : Txt :=
 bif decide ((text.length : Int) > 10000) then [116, 111, 111, 32, 108, 111, 110, 103, 10] else
 bif decide (((bif (fJ 10 text).getD ((fJ 10 text).length - 1) [] == [] then (fJ 10 text).take ((fJ 10 text).length - 1) else fJ 10 text).length : Int) > 200) then [116, 111, 111, 32, 108, 111, 110, 103, 10] else
 alW (bif (fJ 10 text).getD ((fJ 10 text).length - 1) [] == [] then (fJ 10 text).take ((fJ 10 text).length - 1) else fJ 10 text)
theorem TN {text : Txt} (h : ¬ (text.length : Int) > 10000) (k : Nat) : xU ((fJ 10 text).take k) := fun x hx => by
 have := yT (List.mem_of_mem_take hx)
 omega
theorem Ve {text : Txt} (h : ¬ (text.length : Int) > 10000) : xU (fJ 10 text) := fun x hx => by
 have := yT hx
 omega
theorem ayx {N : Nat} (hN : lim < N) {lines : List Txt} (hl : ¬ ((lines.length : Int) > 200)) (hw : xU lines) : CV N lines N [] 0 [] [] [] [] 0 = some (alW lines) := by
 have hlim := aY
 exact ayr hN (by omega) hw lines.length N 0 [] ([], [], [], [], 0) (by omega) (by omega) Y6 (by simp)
theorem ayk {N : Nat} (hN : lim < N) {lines : List Txt} (hl : ¬ ((lines.length : Int) > 200)) (hw : xU lines) : CP N lines (lines.length : Int) N [] 0 [] [] [] [] 0 = some (alW lines) := by
 have hlim := aY
 exact ayl hN (by omega) hw lines.length N 0 [] ([], [], [], [], 0) (by omega) (by omega) Y6 (by simp)
theorem yO {N : Nat} (hN : lim < N) {text : Txt} (ht : text.length ≤ 1048576) : aaG N text = some (ag5 text) := by
 have hlim := aY
 have hlen := Q5 10 text
 have hpos : 0 < (fJ 10 text).length := by rw [jV 10 _ _ (Nat.le_refl _)]; omega
 unfold aaG anG ag5
 rw [au (aaW hN ht (c := 10) (k := 10) rfl)]
 rw [wrP (show (fJ 10 text).length ≤ 1000000000000000000 by omega) hpos]
 rw [decide_eq_true (show (0 : Int) ≤ (((fJ 10 text).length - 1 : Nat) : Int) by omega), decide_eq_true (show (((fJ 10 text).length - 1 : Nat) : Int) < ((fJ 10 text).length : Int) by omega), decide_eq_true (show (((fJ 10 text).length - 1 : Nat) : Int) ≤ ((fJ 10 text).length : Int) by omega)]
 simp only [cond_true, Int.toNat_natCast, show Int.toNat 0 = 0 from rfl, List.drop_zero]
 cases hlast : (fJ 10 text).getD ((fJ 10 text).length - 1) [] == [] with
 | true =>
  simp only [cond_true]
  cases ht : decide ((text.length : Int) > 10000) with
  | true => rfl
  | false =>
   simp only [cond_false]
   cases hn : decide ((((fJ 10 text).take ((fJ 10 text).length - 1)).length : Int) > 200) with
   | true => rfl
   | false =>
    simp only [cond_false]
    exact ayx hN (of_decide_eq_false hn) (TN (of_decide_eq_false ht) _)
 | false =>
  simp only [cond_false]
  cases ht : decide ((text.length : Int) > 10000) with
  | true => rfl
  | false =>
   simp only [cond_false]
   cases hn : decide (((fJ 10 text).length : Int) > 200) with
   | true => rfl
   | false =>
    simp only [cond_false]
    exact ayx hN (of_decide_eq_false hn) (Ve (of_decide_eq_false ht))
theorem zf {N : Nat} (hN : lim < N) {text : Txt} (ht : text.length ≤ 1048576) : aby N text = some (ag5 text) := by
 have hlim := aY
 have hlen := Q5 10 text
 have hpos : 0 < (fJ 10 text).length := by rw [jV 10 _ _ (Nat.le_refl _)]; omega
 unfold aby ark ag5
 rw [au (KL ht 10)]
 rw [wrP (show (fJ 10 text).length ≤ 1000000000000000000 by omega) hpos]
 rw [decide_eq_true (show (0 : Int) ≤ (((fJ 10 text).length - 1 : Nat) : Int) by omega), decide_eq_true (show (((fJ 10 text).length - 1 : Nat) : Int) < ((fJ 10 text).length : Int) by omega), decide_eq_true (show (((fJ 10 text).length - 1 : Nat) : Int) ≤ ((fJ 10 text).length : Int) by omega)]
 simp only [cond_true, Int.toNat_natCast, show Int.toNat 0 = 0 from rfl, List.drop_zero]
 cases hlast : (fJ 10 text).getD ((fJ 10 text).length - 1) [] == [] with
 | true =>
  simp only [cond_true]
  cases ht : decide ((text.length : Int) > 10000) with
  | true => rfl
  | false =>
   simp only [cond_false]
   cases hn : decide ((((fJ 10 text).take ((fJ 10 text).length - 1)).length : Int) > 200) with
   | true => rfl
   | false =>
    simp only [cond_false]
    exact ayk hN (of_decide_eq_false hn) (TN (of_decide_eq_false ht) _)
 | false =>
  simp only [cond_false]
  cases ht : decide ((text.length : Int) > 10000) with
  | true => rfl
  | false =>
   simp only [cond_false]
   cases hn : decide (((fJ 10 text).length : Int) > 200) with
   | true => rfl
   | false =>
    simp only [cond_false]
    exact ayk hN (of_decide_eq_false hn) (Ve (of_decide_eq_false ht))
end Go.MC
namespace Go.MC
open Go.MC.F
theorem BL {N : Nat} {z : Int} (h : nb z) : dL (jO N z) fun t => t.length ≤ 20 := by
 unfold nb at h
 rcases (by omega : z = -1 ∨ z = -2 ∨ 0 ≤ z) with rfl | rfl | h0
 ·exact ⟨[45, 49], rfl, by decide⟩
 ·exact ⟨[45, 50], rfl, by decide⟩
 ·exact ⟨_, SY h0 (by omega), Nat.le_trans (gY h0 (by omega)) (by decide)⟩
theorem Y9 {N : Nat} (hN : lim < N) {l : List Txt} {B : Nat} (hl : l.length ≤ 1000) (hB : B ≤ 1000) (hx : ∀ x ∈ l, x.length ≤ B) : dL (Dl N l [44]) fun t => t.length ≤ l.length * (B + 1) + 1 := by
 have hlim := aY
 have h := ND (N := N) hl (fun x hm => Nat.le_trans (hx x hm) hB) l.length N 0 (by omega) (by omega)
 refine ⟨_, h, ?_⟩
 have := QA hx
 cases Lib.join l [44] == [] with
 | true => show ([45] : Txt).length ≤ _; simp
 | false => show (Lib.join l [44]).length ≤ _; omega
theorem atJ {N : Nat} (hN : lim < N) {us : List Use} (hl : us.length ≤ 100) (hu : ∀ u ∈ us, mdU u) : dL (amQ N us) fun t => t.length ≤ 7000 := by
 have hlim := aY
 unfold amQ alk
 refine jU us.length (fun (g : Int → List Txt → Option Txt) i (st : List Txt) => g i st) (z := fun _ _ => none) (rd := fun next => Jb N us next) (fun i st => st.length ≤ i ∧ ∀ x ∈ st, x.length ≤ 64)
  (fun g i st hi hv on => ?_) (fun g st hv => ?_) (N := N) (st := []) (by omega) ⟨by simp, fun x h => by simp at h⟩
 ·obtain ⟨m1, m2, m3⟩ := hu _ (List.getElem_mem hi)
  have hv1 := hv.1
  unfold mdT at m1
  have hnb : nb us[i].2.2 := by unfold nb; omega
  have on' : ∀ t : Txt, t.length ≤ 64 → dL (g ((i + 1 : Nat) : Int) (st ++ [t])) fun t => t.length ≤ 7000 := fun t ht => on _ ⟨by simp; omega, fun x hx => by
   rcases List.mem_append.1 hx with hx | hx
   ·exact hv.2 x hx
   ·rw [List.mem_singleton.1 hx]; exact ht⟩
  unfold Jb
  simp only [wrS (i := i) (by omega), gAt hi]
  repeat (first
   | refine on' _ ?_; first | omega | (simp only [ayQ]; omega)
   | refine gIf (by first | omega | (simp only [ayQ]; omega)) ?_
   | refine (BL hnb).ob fun _ _ => ?_
   | refine gBy (fun _ => ?_) fun _ => ?_)
 ·unfold Jb
  have hv1 := hv.1
  refine yS (by omega) ((Y9 hN (by omega) (by omega) hv.2).ob fun t ht => .some ?_)
  have : st.length * (64 + 1) ≤ 100 * 65 := Nat.mul_le_mul_right _ (by omega)
  omega
theorem mdL.joined {N : Nat} (hN : lim < N) {n : Nat} {l : List Txt} (h : mdL n l) (hn : n ≤ 1000) : dL (Dl N l [44]) fun t => t.length ≤ n * 21 + 1 := by
 have h1 := h.1
 refine (Y9 hN (by omega) (show 20 ≤ 1000 by omega) h.2).mono fun t ht => ?_
 have : l.length * (20 + 1) ≤ n * 21 := Nat.mul_le_mul_right _ h1
 omega
theorem ahw {N : Nat} (hN : lim < N) {w : aK} (hw : mdW 100 w) (hn : nb w.1) : dL (ajv N w) fun t => t.length ≤ 40000 := by
 have hlim := aY
 unfold ajv
 refine (BL hn).ob fun a ha => gIf (by first | omega | (simp only [ayQ]; omega)) (gIf (by first | omega | (simp only [ayQ]; omega)) ((atJ hN hw.2.1.1 hw.2.1.2).ob fun b hb => gIf (by first | omega | (simp only [ayQ]; omega)) (gIf (by first | omega | (simp only [ayQ]; omega)) ((hw.2.2.1.joined hN (by omega)).ob fun c hc => gIf (by first | omega | (simp only [ayQ]; omega)) (gIf (by first | omega | (simp only [ayQ]; omega)) ((hw.2.2.2.joined hN (by omega)).ob fun d hd => gIf (by first | omega | (simp only [ayQ]; omega)) (gIf (by first | omega | (simp only [ayQ]; omega)) (gBy (fun _ => ?_) fun _ => gBy (fun _ => ?_) fun _ => ?_))))))))
 ·refine (hw.1.joined hN (by omega)).ob fun e he => gIf (by first | omega | (simp only [ayQ]; omega)) (gIf (by first | omega | (simp only [ayQ]; omega)) (.some ?_))
  simp only [ayQ]; omega
 ·refine gIf (by simp only [ayQ]; omega) (.some ?_)
  simp only [ayQ]; omega
 ·refine gIf (by simp only [ayQ]; omega) (.some ?_)
  simp only [ayQ]; omega
theorem aiB {N : Nat} : ∀ (k f n : Nat) (s out : Txt), n ≤ k → n ≤ 1000000 → k < f → s.length * n + out.length ≤ 500000 → dL (LW N f s (n : Int) out) fun t => t.length ≤ 500000 := by
 have hlim := aY
 intro k
 induction k with
 | zero =>
  intro f n s out h1 h0 h2 h3
  obtain ⟨f, rfl⟩ : ∃ j, f = j + 1 := ⟨f - 1, by omega⟩
  have hn : n = 0 := by omega
  subst hn
  show dL (AB N (LW N f) s ((0 : Nat) : Int) out) _
  unfold AB
  exact yS (by omega) (.some (by omega))
 | succ k ih =>
  intro f n s out h1 h0 h2 h3
  obtain ⟨f, rfl⟩ : ∃ j, f = j + 1 := ⟨f - 1, by omega⟩
  show dL (AB N (LW N f) s (n : Int) out) _
  unfold AB
  refine rf (fun hpos => ?_) fun _ => .some (by omega)
  obtain ⟨q, hq⟩ : ∃ q, n / 2 = q := ⟨_, rfl⟩
  have hs : s.length ≤ s.length * n := Nat.le_mul_of_pos_right _ (by omega)
  have hm : s.length * n = (s ++ s).length * q + s.length * (n % 2) := by
   have hn2 : n = 2 * q + n % 2 := by omega
   have h4 : s.length * n = s.length * (2 * q + n % 2) := congrArg (s.length * ·) hn2
   rw [h4, List.length_append, Nat.mul_add, ← Nat.mul_assoc, Nat.mul_comm s.length 2, Nat.two_mul]
  have e1 : Int.tmod (n : Int) 2 = ((n % 2 : Nat) : Int) := rfl
  have e2 : IntKind.i64.wrap (Int.tdiv (n : Int) 2) = ((q : Nat) : Int) := by
   rw [show Int.tdiv (n : Int) 2 = ((n / 2 : Nat) : Int) from rfl, hq]
   exact wr (by omega) (by omega)
  rw [e1, e2, an1]
  refine gBy (fun hb => ?_) fun hb => ?_
  ·have hb := beq_iff_eq.1 hb
   rw [hb, Nat.mul_one] at hm
   exact gIf (by omega) (gIf (by omega) (ih f q (s ++ s) (out ++ s) (by omega) (by omega) (by omega) (by rw [@List.length_append _ out]; omega)))
  ·have hb : n % 2 = 0 := by
    have : ¬ n % 2 = 1 := fun e => by rw [e] at hb; cases hb
    omega
   rw [hb, Nat.mul_zero] at hm
   exact gIf (by omega) (ih f q (s ++ s) out (by omega) (by omega) (by omega) (by omega))
theorem many {N : Nat} (hN : lim < N) {s : Txt} {n : Int} (h0 : 0 ≤ n) (h1 : n ≤ 20000) (hs : s.length ≤ 1 ∨ (s.length ≤ 9 ∧ n ≤ 300)) : dL (alQ N s n) fun t => t.length ≤ 500000 := by
 have hlim := aY
 obtain ⟨k, rfl⟩ := Int.eq_ofNat_of_zero_le h0
 refine aiB (N := N) k N k s [] (Nat.le_refl _) (by omega) (by omega) ?_
 rw [List.length_nil, Nat.add_zero]
 rcases hs with h | ⟨h, h2⟩
 ·exact Nat.le_trans (Nat.mul_le_mul_right _ h) (by omega)
 ·exact Nat.le_trans (Nat.mul_le_mul h (show k ≤ 300 by omega)) (by decide)
def axD : List Txt := [[], [119, 104, 97, 116], [102, 111, 101, 32, 97, 108, 101, 32, 97, 108, 101], [115, 112, 111, 116, 32, 113, 32, 53, 32, 54, 32, 45], [115, 112, 111, 116, 32, 113, 32, 53, 32, 120, 32, 45], [115, 112, 111, 116, 32, 107, 101, 103, 32, 53, 32, 49, 32, 45], [118, 97, 108, 118, 101, 115, 32, 98, 44, 97], [109, 111, 118, 101, 32, 97, 108, 101, 32, 49, 32, 45, 32, 45, 32, 45], [109, 111, 118, 101, 32, 97, 108, 101], [115, 116, 111, 112], [111, 118, 101, 114, 32, 49], [99, 108, 101, 97, 110, 101, 100, 32, 120], [115, 104, 111, 119], [118, 97, 108, 118, 101]]
theorem aqa {l : List Txt} {n : Nat} {x : Txt} (h : l.all (fun y => decide (y.length ≤ n)) = true) (hx : x ∈ l) : x.length ≤ n := of_decide_eq_true (List.all_eq_true.1 h x hx)
theorem ui {N : Nat} {g : Txt → Int → List Int → Int → List Foe → List bi → List Txt → List dm → Int → Option Txt} {P : Txt → Prop} {n : Int} {b : af} (hb : mdB b) {c : Int} {r : Rdr} (hr : rdG c r) (hc : c ≤ 999999930000) {o : Txt} (ho : o.length ≤ 10000000)
 (on : ∀ (o' : Txt) (r' : Rdr), o'.length ≤ o.length + 100 → rdG (c + 5) r' → dL (g o' (IntKind.i64.wrap (n - 1)) r'.1 r'.2 b.1 b.2.1 b.2.2.1 b.2.2.2.1 b.2.2.2.2) P) :
 dL (ob (gK N r 6) (Int.ofNat 0, [], Int.ofNat 0) fun r_9 =>
  bif r_9.1 == 0 then
  (bif decide (List.length o + ([115, 104, 111, 119, 32] : Txt).length ≤ lim) then
  (ob (BG N r_9.2 [[107, 101, 103], [116, 117, 110], [118, 97, 116], [110, 111, 110, 101]]) ([], [], Int.ofNat 0) fun r_10 =>
  bif decide (List.length (o ++ [115, 104, 111, 119, 32]) + List.length r_10.1 ≤ lim) then
  (bif decide (List.length (o ++ [115, 104, 111, 119, 32] ++ r_10.1) + 1 ≤ lim) then
  (g (o ++ [115, 104, 111, 119, 32] ++ r_10.1 ++ [10]) (IntKind.i64.wrap (n - 1)) r_10.2.1 r_10.2.2 b.1 b.2.1 b.2.2.1 b.2.2.2.1 b.2.2.2.2) else none) else none) else none)
  else
  (bif r_9.1 == 1 then
  (bif decide (List.length o + ([118, 97, 108, 118, 101, 32] : Txt).length ≤ lim) then
  (ob (aiK N r_9.2 b) ([], [], Int.ofNat 0) fun r_11 =>
  bif decide (List.length (o ++ [118, 97, 108, 118, 101, 32]) + List.length r_11.1 ≤ lim) then
  (bif decide (List.length (o ++ [118, 97, 108, 118, 101, 32] ++ r_11.1) + 1 ≤ lim) then
  (g (o ++ [118, 97, 108, 118, 101, 32] ++ r_11.1 ++ [10]) (IntKind.i64.wrap (n - 1)) r_11.2.1 r_11.2.2 b.1 b.2.1 b.2.2.1 b.2.2.2.1 b.2.2.2.2) else none) else none) else none)
  else
  (bif r_9.1 == 2 then
  (ob (BG N r_9.2 axD) ([], [], Int.ofNat 0) fun r_12 =>
  bif decide (List.length o + List.length r_12.1 ≤ lim) then
  (bif decide (List.length (o ++ r_12.1) + 1 ≤ lim) then
  (g (o ++ r_12.1 ++ [10]) (IntKind.i64.wrap (n - 1)) r_12.2.1 r_12.2.2 b.1 b.2.1 b.2.2.1 b.2.2.2.1 b.2.2.2.2) else none) else none)
  else
  (g o (IntKind.i64.wrap (n - 1)) r_9.2.1 r_9.2.2 b.1 b.2.1 b.2.2.1 b.2.2.2.1 b.2.2.2.2)))) P := by
 have hlim := aY
 refine (fK hr (by omega) (by omega)).ob fun k hk => gBy (fun _ => ?_) fun _ => gBy (fun _ => ?_) fun _ => gBy (fun _ => ?_) fun _ => on o k.2 (by omega) (hk.2.2.mono (by omega))
 ·refine gIf (by simp only [List.length_cons, List.length_nil]; omega) ((ab5 hk.2.2 (by omega) (by decide)).ob fun x hx => ?_)
  have hl := aqa (n := 10) (by decide) hx.1
  exact gIf (by simp only [ayQ]; omega) (gIf (by simp only [ayQ]; omega) (on _ x.2 (by simp only [ayQ]; omega) (hx.2.mono (by omega))))
 ·refine gIf (by simp only [List.length_cons, List.length_nil]; omega) ((atF hk.2.2 (by omega) b).ob fun x hx => ?_)
  have hl : x.1.length ≤ 20 := by
   rcases hx.1 with h | h
   ·exact hb.2.2.1.2 _ h
   ·omega
  exact gIf (by simp only [ayQ]; omega) (gIf (by simp only [ayQ]; omega) (on _ x.2 (by simp only [ayQ]; omega) (hx.2.mono (by omega))))
 ·refine (ab5 hk.2.2 (by omega) (by decide)).ob fun x hx => ?_
  have hl := aqa (n := 20) (by decide) hx.1
  exact gIf (by omega) (gIf (by simp only [List.length_append]; omega) (on _ x.2 (by simp only [ayQ]; omega) (hx.2.mono (by omega))))
end Go.MC
namespace Go.MC
open Go.MC.F
set_option maxRecDepth 100000 in
set_option maxHeartbeats 2000000 in
theorem ayF {N : Nat} (hN : lim < N) {c : Int} {r : Rdr} (hr : rdG c r) (hc : c ≤ 999999800000) {b : af} (h : bf b = true) {m : Nat} (hm : m ≤ 15) {out : Txt} (ho : out.length ≤ 10000) :
 dL (Mc N N out (m : Int) r.1 r.2 b.1 b.2.1 b.2.2.1 b.2.2.2.1 b.2.2.2.2) fun t => t.length ≤ 1000000 := by
 have hlim := aY
 refine jU m (fun (g : Txt → Int → List Int → Int → List Foe → List bi → List Txt → List dm → Int → Option Txt) i (s : Txt × Rdr × af) => g s.1 ((m - i : Nat) : Int) s.2.1.1 s.2.1.2 s.2.2.1 s.2.2.2.1 s.2.2.2.2.1 s.2.2.2.2.2.1 s.2.2.2.2.2.2) (z := fun _ _ _ _ _ _ _ _ _ => none) (rd := fun next => Ii N next)
  (fun i s => s.1.length ≤ 10000 + 45000 * i ∧ rdG (c + 1300 * i) s.2.1 ∧ bf s.2.2 = true) (fun g i s hi hv on => ?_) (fun g s hv => ?_) (N := N) (st := (out, r, b)) (by omega) ⟨by simpa using ho, hr.mono (by omega), h⟩
 ·obtain ⟨v1, v2, v3⟩ := hv
  unfold Ii
  refine gIf (by omega) ((ayz hN v3 v2 (by omega)).ob fun d hd => ?_)
  obtain ⟨⟨d1, d2⟩, d3, d4, d5⟩ := hd
  rw [au (show Wp N (s.2.2.1, s.2.2.2.1, s.2.2.2.2.1, s.2.2.2.2.2.1, s.2.2.2.2.2.2) d.1 = some (zh s.2.2 d.1) from awU hN (xJ v3) (d2.1.sm (by omega)))]
  have ok := asj v3 d.1
  have on' : ∀ (o' : Txt) (r' : Rdr), o'.length ≤ s.1.length + 45000 → rdG (c + 1300 * i + 1205) r' → dL (g o' (IntKind.i64.wrap (((m - i : Nat) : Int) - 1)) r'.1 r'.2 (zh s.2.2 d.1).1 (zh s.2.2 d.1).2.1 (zh s.2.2 d.1).2.2.1 (zh s.2.2 d.1).2.2.2.1 (zh s.2.2 d.1).2.2.2.2) fun t => t.length ≤ 1000000 := fun o' r' h1 h2 => by
   rw [ayC (by omega) hi]
   exact on (o', r', zh s.2.2 d.1) ⟨by show o'.length ≤ _; omega, h2.mono (by omega), ok⟩
  have hmv : nb d.1.2.2.2.1 := by have := d2.2; unfold nb; omega
  refine gBy (fun _ => ?_) fun _ => gBy (fun _ => gBy (fun _ => ?_) fun _ => gBy (fun _ => ?_) fun _ => ?_) fun _ => gBy (fun _ => ?_) fun _ => ?_
  ·refine gIf (by simp only [List.length_cons, List.length_nil]; omega) ((BL d4).ob fun x hx => gIf (by simp only [ayQ]; omega) (gIf (by simp only [ayQ]; omega) ?_))
   exact ui (GI ok) d1 (by omega) (by simp only [ayQ]; omega) fun o' r' h1 h2 => on' o' r' (by simp only [ayQ] at h1; omega) (h2.mono (by omega))
  ·refine gIf (by simp only [List.length_cons, List.length_nil]; omega) ((BL d5).ob fun x hx => gIf (by simp only [ayQ]; omega) (gIf (by simp only [ayQ]; omega) ?_))
   exact ui (GI ok) d1 (by omega) (by simp only [ayQ]; omega) fun o' r' h1 h2 => on' o' r' (by simp only [ayQ] at h1; omega) (h2.mono (by omega))
  ·refine gIf (by simp only [List.length_cons, List.length_nil]; omega) ((BL d5).ob fun x hx => gIf (by simp only [ayQ]; omega) (gIf (by simp only [ayQ]; omega) ((BL hmv).ob fun y hy => gIf (by simp only [ayQ]; omega) (gIf (by simp only [ayQ]; omega) ?_))))
   exact ui (GI ok) d1 (by omega) (by simp only [ayQ]; omega) fun o' r' h1 h2 => on' o' r' (by simp only [ayQ] at h1; omega) (h2.mono (by omega))
  ·refine (ahw hN d2.1 d3).ob fun x hx => gIf (by omega) ?_
   exact ui (GI ok) d1 (by omega) (by simp only [List.length_append]; omega) fun o' r' h1 h2 => on' o' r' (by simp only [List.length_append] at h1; omega) (h2.mono (by omega))
  ·refine gIf (by simp only [List.length_cons, List.length_nil]; omega) ((BL d5).ob fun x hx => gIf (by simp only [ayQ]; omega) (gIf (by simp only [ayQ]; omega) ((BL hmv).ob fun y hy => gIf (by simp only [ayQ]; omega) (gIf (by simp only [ayQ]; omega) ?_))))
   exact ui (GI ok) d1 (by omega) (by simp only [ayQ]; omega) fun o' r' h1 h2 => on' o' r' (by simp only [ayQ] at h1; omega) (h2.mono (by omega))
  ·refine (ahw hN d2.1 d3).ob fun x hx => gIf (by omega) ?_
   exact ui (GI ok) d1 (by omega) (by simp only [List.length_append]; omega) fun o' r' h1 h2 => on' o' r' (by simp only [List.length_append] at h1; omega) (h2.mono (by omega))
 ·obtain ⟨v1, v2, v3⟩ := hv
  unfold Ii
  refine yS (by omega) ((fK v2 (by omega) (by omega)).ob fun k hk => gBy (fun _ => ?_) fun _ => gBy (fun _ => ?_) fun _ => .some (by omega))
  ·refine (fK hk.2.2 (by omega) (by omega)).ob fun j hj => ?_
   rw [wr (by omega) (by omega)]
   exact (many hN (by omega) (by omega) (.inr ⟨by decide, by omega⟩)).ob fun t ht => .some (by omega)
  ·refine (fK hk.2.2 (by omega) (by omega)).ob fun j hj => ?_
   rw [wr (by omega) (by omega)]
   exact (many hN (by omega) (by omega) (.inl (by decide))).ob fun t ht => .some (by omega)
end Go.MC
namespace Go.MC
open Go.MC.F
theorem akM {s : bi} (h : s.2.2.1 = s.2.2.2.1) : (s.1, s.2.1, s.2.2.1, s.2.2.1, s.2.2.2.2) = s := by
 obtain ⟨a, b, c, d, e⟩ := s
 have : c = d := h
 subst this
 rfl
theorem ayj {N : Nat} (hN : lim < N) {c : Int} {r : Rdr} (hr : rdG c r) (hc : c ≤ 999999700000) {b : af} (h : bf b = true) (hsame : ∀ s ∈ b.2.1, s.2.2.1 = s.2.2.2.1) {out : Txt} (ho : out.length ≤ 1000) :
 dL (MM N r.1 r.2 b.1 b.2.2.2.2 b.2.2.1 b.2.2.2.1 N out 0 b.2.1) fun t => t.length ≤ 1000000 := by
 have hlim := aY
 have hs8 := (kU h).2.1
 have hmd := GI h
 refine jU b.2.1.length (fun (g : Txt → Int → List bi → Option Txt) i (s : Txt × List bi) => g s.1 i s.2) (z := fun _ _ _ => none) (rd := fun next => Ew N (Mc N) r.1 r.2 b.1 b.2.2.2.2 b.2.2.1 b.2.2.2.1 next)
  (fun i s => s.1.length ≤ 1000 + 500 * i ∧ s.2 = b.2.1) (fun g i s hi hv on => ?_) (fun g s hv => ?_) (N := N) (st := (out, b.2.1)) (by omega) ⟨by simpa using ho, rfl⟩
 ·obtain ⟨o, sp⟩ := s
  obtain ⟨v1, v2⟩ := hv
  have v2 : sp = b.2.1 := v2
  subst v2
  have v1 : o.length ≤ 1000 + 500 * i := v1
  have hmem := List.getElem_mem hi
  obtain ⟨a1, a2, a3, a4, a5, a6⟩ := OH h hmem
  have hname : b.2.1[i].1.length ≤ 8 := xO (ig.1 ((fP.1 h).so _ hmem)).1
  have n1 : nb b.2.1[i].2.1 := by unfold nb; omega
  have n2 : nb b.2.1[i].2.2.1 := by unfold nb; omega
  unfold Ew
  simp only [dlt hi, dge, gAt hi, cond_true, wrS (i := i) (by omega)]
  simp only [Int.toNat_natCast]
  have hset : b.2.1.set i (b.2.1[i].1, b.2.1[i].2.1, b.2.1[i].2.2.1, b.2.1[i].2.2.1, b.2.1[i].2.2.2.2) = b.2.1 := by
   rw [akM (hsame _ hmem)]
   exact List.set_getElem_self hi
  have j5 : b.2.1[i].2.2.2.2.length * (8 + 1) ≤ 8 * 9 := Nat.mul_le_mul_right _ a4
  refine gIf (by simp only [List.length_cons, List.length_nil]; omega) (gIf (by simp only [ayQ]; omega) (gIf (by simp only [ayQ]; omega) ?_))
  refine (BL n1).ob fun x hx => gIf (by simp only [ayQ]; omega) (gIf (by simp only [ayQ]; omega) ?_)
  refine (BL n2).ob fun y hy => gIf (by simp only [ayQ]; omega) (gIf (by simp only [ayQ]; omega) ?_)
  refine (Y9 hN (by omega) (show 8 ≤ 1000 by omega) a5).ob fun z hz => gIf (by simp only [ayQ]; omega) (gIf (by simp only [ayQ]; omega) ?_)
  refine on (_, _) ⟨?_, hset⟩
  show List.length _ ≤ 1000 + 500 * (i + 1)
  simp only [ayQ]
  omega
 ·obtain ⟨o, sp⟩ := s
  obtain ⟨v1, v2⟩ := hv
  have v2 : sp = b.2.1 := v2
  subst v2
  have v1 : o.length ≤ 1000 + 500 * b.2.1.length := v1
  unfold Ew
  have hv := hmd.2.2.1
  refine yS (show ¬ ((b.2.1.length : Int) < (b.2.1.length : Int)) by omega) (gIf (show o.length + ([118, 97, 108, 118, 101, 115, 32] : Txt).length ≤ lim by simp only [List.length_cons, List.length_nil]; omega) ((hv.joined hN (by omega)).ob fun x hx => gIf (by simp only [ayQ]; omega) (gIf (by simp only [ayQ]; omega) ((fK hr (by omega) (by omega)).ob fun k hk => ?_))))
  obtain ⟨m, hm⟩ : ∃ m : Nat, k.1 = (m : Int) := ⟨k.1.toNat, by omega⟩
  rw [hm]
  exact ayF hN hk.2.2 (by omega) h (by omega) (by simp only [ayQ]; omega)
theorem avH {N : Nat} (hN : lim < N) {c : Int} {r : Rdr} (hr : rdG c r) (hc : c ≤ 999999700000) {b : af} (hb : apn b) :
 dL (ZB N r.1 r.2 b.1 b.2.2.2.2 b.2.1 b.2.2.1 b.2.2.2.1 N [] 0) fun t => t.length ≤ 1000000 := by
 have hlim := aY
 have h := aut hb
 have hf := (kU h).1
 have hmd := GI h
 refine jU b.1.length (fun (g : Txt → Int → Option Txt) i (s : Txt) => g s i) (z := fun _ _ => none) (rd := fun next => Jt N (MM N) r.1 r.2 b.1 b.2.2.2.2 b.2.1 b.2.2.1 b.2.2.2.1 next)
  (fun i s => s.length ≤ 50 * i) (fun g i s hi hv on => ?_) (fun g s hv => ?_) (N := N) (st := []) (by omega) (by simp)
 ·obtain ⟨m1, m2⟩ := hmd.1.2 _ (List.getElem_mem hi)
  unfold mdT at m1 m2
  unfold Jt
  simp only [dlt hi, dge, gAt hi, cond_true, wrS (i := i) (by omega)]
  refine gIf (by simp only [List.length_cons, List.length_nil]; omega) (gIf (by simp only [ayQ]; omega) (gIf (by simp only [ayQ]; omega) (gIf (by simp only [ayQ]; omega) (gIf (by simp only [ayQ]; omega) (on _ ?_)))))
  show List.length _ ≤ 50 * (i + 1)
  simp only [ayQ]
  omega
 ·unfold Jt
  exact yS (by omega) (ayj hN hr hc h (fun s hs => (hb.2.1.2 s hs).2.2.1) (by omega))
theorem acm {N : Nat} (hN : lim < N) {code : List Int} (hc : ∀ x ∈ code, 0 ≤ x ∧ x ≤ 255) : dL (aoZ N code) fun t => t.length ≤ 1000000 := by
 unfold aoZ apS
 refine rf (fun h => gIf (by omega) ((ap0 hN (atf hc) (by omega)).ob fun q hq => avH hN hq.1 (by omega) hq.2)) fun h => (ap0 hN (aq8 hc h) (by omega)).ob fun q hq => avH hN hq.1 (by omega) hq.2
theorem ab6 (a c : Txt) : (bif decide ((a.length : Int) > (c.length : Int)) then (bif c == c then (some (a == a)) else (some false)) else
 (bif decide ((a.length : Int) ≤ (c.length : Int)) then (bif !List.drop (Int.toNat 0) (List.take (a.length : Int).toNat c) == a then (bif c == c then (some (a == a)) else (some false))
  else (bif a == a then (bif (c.length : Int) == (c.length : Int) then (bif decide ((a.length : Int) ≤ (c.length : Int)) then (some (List.drop (Int.toNat 0) (List.take (a.length : Int).toNat c) == a)) else none) else (some false)) else (some false))) else none)) = some true := by
 have e1 : (a == a) = true := beq_self_eq_true a
 have e2 : (c == c) = true := beq_self_eq_true c
 have e3 : ((c.length : Int) == (c.length : Int)) = true := beq_self_eq_true _
 rw [e1, e2, e3]
 by_cases h : (a.length : Int) > (c.length : Int)
 ·rw [decide_eq_true h]; rfl
 ·rw [decide_eq_false h, decide_eq_true (show (a.length : Int) ≤ (c.length : Int) by omega)]
  simp only [cond_true, cond_false]
  cases List.drop (Int.toNat 0) (List.take (a.length : Int).toNat c) == a <;> rfl
theorem aei {N : Nat} (hN : lim < N) {t : Txt} (ht : t.length ≤ 1048576) : ∀ (d n i : Nat) (k : Int), i + d = t.length → d < n → 0 ≤ k → k ≤ 100 → JI N t n k (i : Int) = some true := by
 have hlim := aY
 intro d
 induction d with
 | zero =>
  intro n i k h1 h2 h3 h4
  obtain ⟨n, rfl⟩ : ∃ j, n = j + 1 := ⟨n - 1, by omega⟩
  show AZ N t (JI N t n) k (i : Int) = _
  have hi : i = t.length := by omega
  subst hi
  unfold AZ
  rw [d_]
  simp only [cond_false, au (zf hN ht), au (yO hN ht)]
  exact ab6 _ _
 | succ d ih =>
  intro n i k h1 h2 h3 h4
  obtain ⟨n, rfl⟩ : ∃ j, n = j + 1 := ⟨n - 1, by omega⟩
  show AZ N t (JI N t n) k (i : Int) = _
  have hi : i < t.length := by omega
  unfold AZ
  simp only [dlt hi, dge, cond_true, wrS (i := i) (by omega), wr (n := k - 1) (by omega) (by omega)]
  cases hb : (((t.getD (Int.toNat (i : Int)) 0).toNat : Int) == 10) with
  | false =>
   simp only [cond_false]
   exact ih n (i + 1) k (by omega) (by omega) h3 h4
  | true =>
   simp only [cond_true]
   by_cases hk : k - 1 < 0
   ·rw [decide_eq_true hk, decide_eq_true (show ((i + 1 : Nat) : Int) ≤ (t.length : Int) by omega)]
    have hh : (List.drop (Int.toNat 0) (List.take ((i + 1 : Nat) : Int).toNat t)).length ≤ 1048576 := by
     simp only [List.length_drop, List.length_take]; omega
    simp only [cond_true, au (zf hN ht), au (yO hN ht), au (zf hN hh), au (yO hN hh)]
    exact ab6 _ _
   ·rw [decide_eq_false hk]
    simp only [cond_false]
    exact ih n (i + 1) (k - 1) (by omega) (by omega) (by omega) (by omega)
theorem am6 {N : Nat} (hN : lim < N) {code : List Int} (hc : Fit (.slice (.int .u8)) code) : ajp N code = some true := by
 have hlim := aY
 unfold ajp ani
 cases h : decide ((code.length : Int) > 1048576) with
 | true => rfl
 | false =>
  obtain ⟨t, ht, hl⟩ := acm hN (aom hc)
  rw [cond_false, au ht]
  have e : Int.tmod (code.length : Int) 20 = ((code.length % 20 : Nat) : Int) := rfl
  rw [e, wr (by omega) (by omega)]
  exact aei hN (by omega) t.length N 0 _ (by omega) (by omega) (by omega) (by omega)
end Go.MC
namespace Go.Proofs.YtaihjhaabnfenaaGreatDoor.fnLines
open Go.ChangeShapes Go.WideShapes Go.ChangeAt Go.RowKit Go.MC
open Go.ChangeMaps (open_string shut_string)
theorem own : ownKnob Tryz.prog.godebug = none := by kernel_rfl
theorem atQ : laidOutB Tryz.prog = true := by kernel_rfl
theorem ayI {H : Type} {enc : TypeId × Value → H} {a : Assume} {C : Checked} {os : Os} {f : FuncId} {fn : Func} {s : ChangeSpec} {conds : List PathCond} {BH fresh handsOn again : Bool} {X : World → Array Value → Prop}
 (hX : ∀ (w w' : World) (args : Array Value), w.heap = w'.heap → X w args → X w' args)
 (own : ownKnob C.prog.godebug = none) (started : os.Started) (noInit : C.prog.inits.idxOf? f = none) (hfn : C.prog.funcs[f]? = some fn)
 (witness : ∃ (w : World) (tape : Tape) (i : Input), w.os = os ∧ (w.forCall tape i).Shaped C.prog ∧ i.vars = [] ∧ Input.okWide C.prog (w.forCall tape i) .any w.heap.size f i ∧
  ((s.pre enc C.prog fn conds BH (w.forCall tape i).memory i.args ∧ X (w.forCall tape i).memory i.args) ∧ sizedMet enc C.prog fn (OpenSpec.ofChange s) BH (w.forCall tape i).memory i.args) ∧ a.holds C.prog (lone (Frame.enter C.prog f i.args .normal) [] (w.forCall tape i)))
 (contract : ∀ (W : World) (base : Nat) (args : Array Value) (ds gs : List (DataW H)) (before : List MemPlace),
  (∀ (j : Nat) t v, fn.params[j]? = some t → args[j]? = some v → Value.okWide C.prog W .any base t v) →
  DataW.Whole enc C.prog fn.params.toList s.vars BH W args.toList ds gs before →
  (DataW.weightsEach C.prog (fn.params.toList ++ s.plain.varTypes C.prog) (ds ++ gs)).all (· ≤ reachBytes) = true → X W args → W.ShapedOpen C.prog →
  Calls C.prog f args W fun e W' => ∃ v, e = .returned v ∧ s.post enc C.prog fn BH fresh handsOn again W args v W') :
 ReturnsInHanded a C os f .any (fun w args => (s.pre enc C.prog fn conds BH w args ∧ X w args) ∧ sizedMet enc C.prog fn (OpenSpec.ofChange s) BH w args) (s.post enc C.prog fn BH fresh handsOn again) := by
 refine returnsInHanded_of_calls own started noInit witness ?_
 intro w tape i _ hsh _ hok hpre _
 obtain ⟨_, _, _, fn', hfn', _, _, _, _, hval⟩ := hok
 have e : fn' = fn := Option.some.inj (hfn'.symm.trans hfn)
 subst e
 obtain ⟨⟨⟨ds, gs, before, hw, hc⟩, hx⟩, hz⟩ := hpre
 have hw' := DataW.Whole.of_heap (w' := w.forCall tape i) (by rfl) hw
 refine (contract (w.forCall tape i) w.heap.size i.args ds gs before hval hw' (hz.weights hw) (hX _ _ _ (by rfl) hx) hsh).mono fun e W' ⟨v, he, hp⟩ => ?_
 subst he
 exact ChangeSpec.post_blind hp
theorem gv {W : World} (h : laidMetH Tryz.prog Rows.fnLinesRow.laid W) (hs : W.ShapedOpen Tryz.prog) : GV W fun b => b < W.heap.size := by
 rw [MakeChecks.laidMetH_plain _ _ _ (by kernel_rfl)] at h
 have e : Rows.fnLinesRow.laid = ("math/bits.deBruijn32tab", Rows.laid_math_bits_deBruijn32tab) :: ("math/bits.deBruijn64tab", Rows.laid_math_bits_deBruijn64tab) :: ("internal/strconv.uint64pow10", Lib.tabData .u64 Lib.pow10Tab) :: Rows.fnLinesRow.laid.drop 3 := by kernel_rfl
 rw [e] at h
 have h3 := laidMet.tail (laidMet.tail h)
 have tab : Lib.TabIs Tryz.prog W "internal/strconv.uint64pow10" .u64 Lib.pow10Tab := Lib.tabIs_of_head (g := 5) (by kernel_rfl) (by kernel_rfl) Tryz.underlying189 Tryz.underlying164 (by kernel_rfl) (by kernel_rfl) h3
 obtain ⟨m, hm⟩ := cell_of_shapedOpen_int (g := 0) (t := 3) (zero := #[.int .i64 0]) (k := .i64) hs (of_decide_eq_true (by kernel_rfl)) (by kernel_rfl) rfl (by kernel_rfl) (by kernel_rfl) Tryz.underlying3
 obtain ⟨cs, hh, hsz, _⟩ := hs.1 0 #[.int .i64 0] 3 (of_decide_eq_true (by kernel_rfl)) (by kernel_rfl)
 have h5 : ∃ t fr, W.heap[5]? = some (.cells (Lib.pow10Tab.map fun z => Value.int .u64 z).toArray t fr) := by
  unfold Lib.TabIs World.var? at tab
  rw [show Tryz.prog.globalNamed "internal/strconv.uint64pow10" = some 5 by kernel_rfl] at tab
  simp only [Option.bind_some] at tab
  split at tab
  ·rename_i cs' t fr he
   cases tab
   exact ⟨t, fr, he⟩
  ·cases tab
 obtain ⟨t5, fr5, h5⟩ := h5
 have l5 : 5 < W.heap.size := (Array.getElem?_eq_some_iff.1 h5).1
 intro b hb
 have hb : b < 6 := hb
 have lb : b < W.heap.size := by omega
 refine ⟨lb, W.heap[b], Array.getElem?_eq_getElem lb, fun e => ?_, fun e => ?_⟩
 ·subst e
  have e0 : W.heap[0] = .cells cs 3 := Option.some.inj ((Array.getElem?_eq_getElem lb).symm.trans hh)
  refine ⟨m, 3, (0, 0), ?_⟩
  rw [e0]
  have hc : cs[0]? = some (.int .i64 m) := by
   unfold World.cell? at hm
   rw [hh] at hm
   simpa using hm
  have : cs = #[.int .i64 m] := by
   have hsz : cs.size = 1 := hsz
   apply Array.ext
   ·rw [hsz]; rfl
   ·intro i h1 h2
    have : i = 0 := by omega
    subst this
    have h6 := (Array.getElem?_eq_some_iff.1 hc).2
    exact h6
  rw [this]
 ·subst e
  exact ⟨t5, fr5, Option.some.inj ((Array.getElem?_eq_getElem lb).symm.trans h5)⟩
set_option maxRecDepth 100000 in
theorem aww (os : Os) (started : os.Started) (H : Type) (enc : TypeId × Value → H) :
 ReturnsInHanded {} Tryz.checked os 4 .any (fun w args => (Rows.fnLinesSpec.pre enc Tryz.prog Tryz.f4 Rows.fnLinesRow.domain false w args ∧ laidMetH Tryz.prog Rows.fnLinesRow.laid w) ∧ sizedMet enc Tryz.prog Tryz.f4 (OpenSpec.ofChange Rows.fnLinesSpec) false w args) (Rows.fnLinesSpec.post enc Tryz.prog Tryz.f4 false true false false) := by
 refine ayI (C := Tryz.checked) (X := fun w _ => laidMetH Tryz.prog Rows.fnLinesRow.laid w) (fun _ _ _ hh h => h.of_heap hh) own started (by kernel_rfl) Tryz.func4
  (ChangeSpec.witness_shaped (enc := enc) (C := Tryz.checked) (os := os) (X := fun w _ => laidMetH Tryz.prog Rows.fnLinesRow.laid w) false (World.laidAll Tryz.prog os Rows.fnLinesRow.laid) #[.slice none 0 0] 8 (World.laidAll_os _ _ _)
   (World.shaped_of_ZipB (by kernel_rfl) (by kernel_rfl)) (by kernel_rfl) (by kernel_rfl) (by kernel_rfl)
   (by rw [MakeChecks.laidMetH_plain _ _ _ (by kernel_rfl)]; exact laidMet_laidAll _ (by kernel_rfl) (by kernel_rfl))) ?_
 intro W base args ds gs before hval0 hW hsz0 hL hsh
 have hgv := gv hL hsh
 have hsz : (DataW.weightsEach Tryz.prog (Tryz.f4.params.toList ++ Rows.fnLinesSpec.plain.varTypes Tryz.prog) (ds ++ gs)).all (· ≤ reachBytes) = true := hsz0
 have hval : ∀ (j : Nat) t v, Tryz.f4.params[j]? = some t → args[j]? = some v → Value.okWide Tryz.prog W .any base t v := hval0
 have hW' := hW
 obtain ⟨p, q, hA0, hV, rfl, hfz, hnd⟩ := hW
 have hA : DataW.TrodAll enc Tryz.prog W 0 (fun _ => true) true Tryz.f4.params.toList args.toList ds p := hA0
 rw [Tryz.params4] at hA hval hsz
 obtain ⟨v0, vs0, d0, ds0, p0, q0, hargs, rfl, rfl, h0, r0⟩ := trodAll_cons hA
 obtain ⟨rfl, rfl, rfl⟩ := trodAll_nil r0
 obtain rfl : args = #[v0] := by cases args; simp_all
 obtain ⟨rfl, rfl⟩ := trodVars_none hV
 have lt0 : ∀ x ∈ p0, x.block < W.heap.size := by obtain ⟨m, hm⟩ := h0; exact DataW.trod_lt m _ _ _ hm
 obtain ⟨x0, cs0, hx0, hs0⟩ := axb (n := 12) (t := (.slice di)) (by kernel_rfl) (hval 0 24 v0 rfl rfl) h0 hsz (j := 0) rfl rfl
 clear hA0 hval0 hsz0 hsz
 have law : F.ajp (lim + 1) x0 = some true := am6 (N := lim + 1) (Nat.lt_succ_self _) (id hx0.fit)
 have hout := akf (f := F.ajp (lim + 1)) law (rs := [.d .bool false]) (ts := [.bool]) (fz := false) (a := false) (t := (.slice di)) (x := x0) (r := true)
 refine (akg (ap2 (lim + 1)) (args := [v0]) (ds := [⟨(.slice di), x0⟩]) ⟨v0, [], [], rfl, rfl, ⟨rfl, rfl⟩⟩
  ⟨v0, [], x0, [], cs0, rfl, rfl, hx0, hs0, ⟨rfl, rfl, rfl, rfl⟩⟩ hout.1 hout.2 rfl hgv).mono fun e W' ⟨he, bel⟩ => ?_
 subst he
 exact ⟨_, rfl, _, _, _, [], _, [], hW', trodAll_mk1 (shut_bool Tryz.underlying4 _), (trodAll_cons_mk (Below.trod atQ (by kernel_rfl) (of_decide_eq_true (by kernel_rfl)) h0 bel lt0) trodAll_mk0), rfl, bel.frame _, fun h => by cases h⟩
theorem over : Rows.fnLinesRow.holds Tryz.pinned (OpenSpec.ofChange Rows.fnLinesSpec) :=
 OpenClaim.holds_of_wide 4 Tryz.f4 rfl rfl rfl rfl rfl rfl rfl ⟨rfl, rfl, rfl, rfl, rfl⟩ rfl rfl rfl rfl rfl (by kernel_rfl) Tryz.func4 (by kernel_rfl)
  (of_decide_eq_true (by kernel_rfl)) (by unfold Func.isWrapper; first | (rw [if_pos (by decide +kernel)]; kernel_rfl) | (rw [if_neg (by decide +kernel)]; exact ⟨rfl, rfl⟩))
  (fun os started H enc _ => aww os started H enc)
theorem proved : Rows.FnLinesCardSaid :=
 Claim7.holds_tied_plain_at .later [] [.data, .data, .data, .data, .sentinel, .sentinel, .pinned] true (true, "3741b40c892083b1898007178852194ade3603a2a232be8b26a209944ebc6f1c") true over (fun _ h => by cases h) (by kernel_rfl) (fun _ h => by cases h) fnLines_row_tie rfl ⟨rfl, rfl⟩ (by kernel_rfl) rfl
  (fun f fn hf hfn => by
   obtain rfl : f = 4 := Option.some.inj ((show Tryz.prog.funcNamed "loop.example/maltclaim/laws.FnLines" = some 4 by kernel_rfl).symm.trans hf) |>.symm
   obtain rfl : fn = Tryz.f4 := (Option.some.inj (Tryz.func4.symm.trans hfn)).symm
   exact ⟨by kernel_rfl, fun j t ht => by
    rw [Tryz.params4] at ht
    have hm : t ∈ [24] := by simpa using Array.mem_of_getElem? ht
    have hall : ([24].all fun u => !Tryz.prog.wantsStandIn u) = true := by kernel_rfl
    exact (show Tryz.prog.wantsStandIn t = false by simpa using List.all_eq_true.1 hall t hm)⟩)
  (by kernel_rfl)
#print axioms proved
end Go.Proofs.YtaihjhaabnfenaaGreatDoor.fnLines
namespace Go.Proofs.YtaihjhaabnfenaaGreatDoor
theorem fnLines_holds : Rows.FnLinesCardSaid := fnLines.proved
end Go.Proofs.YtaihjhaabnfenaaGreatDoor

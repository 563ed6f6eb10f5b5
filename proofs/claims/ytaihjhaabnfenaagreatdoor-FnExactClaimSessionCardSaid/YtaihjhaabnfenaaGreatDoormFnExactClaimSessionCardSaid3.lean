/- Part 3 of the texts of the claim FnExactClaimSessionCardSaid: an interpreter of the translated code over data, proved sound; the contracts of the functions; the same in plain words. -/
import Derived.Test.YtaihjhaabnfenaaGreatDoormFnExactClaimSessionCardSaid2
set_option linter.unusedVariables false
namespace Go.MC.F
noncomputable section
abbrev dB : Book := ([], [], [], [], Int.ofNat 0)
open IntKind
def og (N : Nat) (s : Txt) (at0 : Int) (next : Int → Int → (List Txt) → Option (List Txt)) : Int → Int → (List Txt) → Option (List Txt) := fun from6 i7 out5a =>
 bif decide (i7 < (↑s.length : Int)) then
 (bif decide (0 ≤ i7) then
 (bif decide (i7 < (↑s.length : Int)) then
 (bif (↑(s.getD i7.toNat 0).toNat : Int) == at0 then
 (bif decide (0 ≤ from6) then
 (bif decide (from6 ≤ i7) then
 (bif decide (i7 ≤ (↑s.length : Int)) then
 (bif decide ((out5a.length + 1) * 16 ≤ lim) then
 (next (i64.wrap (i7 + 1)) (i64.wrap (i7 + 1)) (out5a ++ [List.drop from6.toNat (List.take i7.toNat s)])) else none) else none) else none) else none)
 else
 (next from6 (i64.wrap (i7 + 1)) out5a)) else none) else none)
 else
 (bif decide (0 ≤ from6) then
 (bif decide (from6 ≤ (↑s.length : Int)) then
 (bif decide ((↑s.length : Int) ≤ (↑s.length : Int)) then
 (bif decide ((out5a.length + 1) * 16 ≤ lim) then
 (some (out5a ++ [List.drop from6.toNat (List.take (↑s.length : Int).toNat s)])) else none) else none) else none) else none)
def uH (N : Nat) (s : Txt) (at0 : Int) : Nat → Int → Int → (List Txt) → Option (List Txt) := lp (fun _ _ _ => none) fun next => og N s at0 next
def ah8 (N : Nat) (I0 : Txt → Int → Nat → Int → Int → (List Txt) → Option (List Txt)) (s : Txt) (at0 : Int) : Option (List Txt) :=
 I0 s at0 N 0 0 []
def Dz (N : Nat) (s : Txt) (at0 : Int) : Option (List Txt) := ah8 N (uH N) s at0
def Oc (N : Nat) (list : List Txt) : Option (List Txt) :=
 bif decide ((0 + list.length) * 16 ≤ lim) then
 (some ([] ++ list)) else none
def acE (N : Nat) (w : Want) : Option Want :=
 bif decide ((0 + w.2.2.2.1.length) * 32 ≤ lim) then
 (ob (F.Oc N w.2.2.1) [] fun r =>
 ob (F.Oc N w.2.2.2.2.1) [] fun r_1 =>
 ob (F.Oc N w.2.2.2.2.2) [] fun r_2 =>
 some (w.1, w.2.1, r, [] ++ w.2.2.2.1, r_1, r_2)) else none
def En (N : Nat) (b : Book) (r : List Txt) (t2c4 : Int) (x3c0a : List Foe) (x3c1a : List aP) (next : Int → (List Part) → Option Book) : Int → (List Part) → Option Book := fun i6 x3c3a =>
 bif decide (i6 < (↑(b.2.2.2.1.length) : Int)) then
 (bif decide (0 ≤ i6) then
 (bif decide (i6 < (↑(b.2.2.2.1.length) : Int)) then
 (ob (F.acE N (b.2.2.2.1.getD i6.toNat bC).1) zi fun r_2 =>
 bif decide (0 ≤ i6) then
 (bif decide (i6 < (↑(b.2.2.2.1.length) : Int)) then
 (bif decide ((x3c3a.length + [(r_2, (b.2.2.2.1.getD i6.toNat bC).2)].length) * 120 ≤ lim) then
 (next (i64.wrap (i6 + 1)) (x3c3a ++ [(r_2, (b.2.2.2.1.getD i6.toNat bC).2)])) else none) else none) else none) else none) else none)
 else
 (some (x3c0a, x3c1a, r, x3c3a, b.2.2.2.2))
def IR (N : Nat) (b : Book) (r : List Txt) (t2c4 : Int) (x3c0a : List Foe) (x3c1a : List aP) : Nat → Int → (List Part) → Option Book := lp (fun _ _ => none) fun next => En N b r t2c4 x3c0a x3c1a next
def EJ (N : Nat) (I0 : Book → (List Txt) → Int → (List Foe) → (List aP) → Nat → Int → (List Part) → Option Book) (b : Book) (r : List Txt) (t2c4 : Int) (x3c0a : List Foe) (next : Int → (List aP) → Option Book) : Int → (List aP) → Option Book := fun i4 x3c1a =>
 bif decide (i4 < (↑(b.2.1.length) : Int)) then
 (bif decide (0 ≤ i4) then
 (bif decide (i4 < (↑(b.2.1.length) : Int)) then
 (ob (F.Oc N (b.2.1.getD i4.toNat az).2.2.2.2) [] fun r_1 =>
 bif decide ((x3c1a.length + [((b.2.1.getD i4.toNat az).1, (b.2.1.getD i4.toNat az).2.1, (b.2.1.getD i4.toNat az).2.2.1, (b.2.1.getD i4.toNat az).2.2.2.1, r_1)].length) * 64 ≤ lim) then
 (next (i64.wrap (i4 + 1)) (x3c1a ++ [((b.2.1.getD i4.toNat az).1, (b.2.1.getD i4.toNat az).2.1, (b.2.1.getD i4.toNat az).2.2.1, (b.2.1.getD i4.toNat az).2.2.2.1, r_1)])) else none) else none) else none)
 else
 (I0 b r t2c4 x3c0a x3c1a N 0 [])
def WJ (N : Nat) (b : Book) (r : List Txt) (t2c4 : Int) (x3c0a : List Foe) : Nat → Int → (List aP) → Option Book := lp (fun _ _ => none) fun next => EJ N (IR N) b r t2c4 x3c0a next
def acY (N : Nat) (I1 : Book → (List Txt) → Int → (List Foe) → Nat → Int → (List aP) → Option Book) (b : Book) : Option Book :=
 bif decide ((0 + b.1.length) * 32 ≤ lim) then
 (ob (F.Oc N b.2.2.1) [] fun r =>
 I1 b r 0 ([] ++ b.1) N 0 []) else none
def yD (N : Nat) (b : Book) : Option Book := acY N (WJ N) b
def iD (N : Nat) (n : Int) (low : Int) (high : Int) : Option Bool :=
 bif decide (n ≥ low) then
 (some (decide (n ≤ high)))
 else
 (some false)
def EX (N : Nat) (s : Txt) (next : Int → Option Bool) : Int → Option Bool := fun i3 =>
 bif decide (i3 < (↑s.length : Int)) then
 (bif decide (0 ≤ i3) then
 (bif decide (i3 < (↑s.length : Int)) then
 (bif decide ((↑(s.getD i3.toNat 0).toNat : Int) ≥ 97) then
 (bif decide ((↑(s.getD i3.toNat 0).toNat : Int) ≤ 122) then
 (next (i64.wrap (i3 + 1)))
 else
 (bif decide ((↑(s.getD i3.toNat 0).toNat : Int) ≥ 48) then
 (bif decide ((↑(s.getD i3.toNat 0).toNat : Int) ≤ 57) then
 (next (i64.wrap (i3 + 1)))
 else
 (bif !(↑(s.getD i3.toNat 0).toNat : Int) == 45 then
 (some false)
 else
 (next (i64.wrap (i3 + 1)))))
 else
 (bif !(↑(s.getD i3.toNat 0).toNat : Int) == 45 then
 (some false)
 else
 (next (i64.wrap (i3 + 1))))))
 else
 (bif decide ((↑(s.getD i3.toNat 0).toNat : Int) ≥ 48) then
 (bif decide ((↑(s.getD i3.toNat 0).toNat : Int) ≤ 57) then
 (next (i64.wrap (i3 + 1)))
 else
 (bif !(↑(s.getD i3.toNat 0).toNat : Int) == 45 then
 (some false)
 else
 (next (i64.wrap (i3 + 1)))))
 else
 (bif !(↑(s.getD i3.toNat 0).toNat : Int) == 45 then
 (some false)
 else
 (next (i64.wrap (i3 + 1)))))) else none) else none)
 else
 (some true)
def Wp (N : Nat) (s : Txt) : Nat → Int → Option Bool := lp (fun _ => none) fun next => EX N s next
def ahB (N : Nat) (I0 : Txt → Nat → Int → Option Bool) (s : Txt) : Option Bool :=
 ob (F.iD N (↑s.length : Int) 1 8) false fun r =>
 bif !r then
 (some false)
 else
 (I0 s N 0)
def Oj (N : Nat) (s : Txt) : Option Bool := ahB N (Wp N) s
def FC (N : Nat) (b : Book) (next : Int → Option Bool) : Int → Option Bool := fun i3 =>
 bif decide (i3 < (↑(b.1.length) : Int)) then
 (bif decide (0 ≤ i3) then
 (bif decide (i3 < (↑(b.1.length) : Int)) then
 (ob (F.Oj N (b.1.getD i3.toNat gX).1) false fun r =>
 bif !r then
 (some false)
 else
 (ob (F.Oj N (b.1.getD i3.toNat gX).2) false fun r_1 =>
 bif !r_1 then
 (some false)
 else
 (bif !Op.bytesLess (b.1.getD i3.toNat gX).1 (b.1.getD i3.toNat gX).2 then
 (some false)
 else
 (bif decide (i3 > 0) then
 (bif decide (0 ≤ i64.wrap (i3 - 1)) then
 (bif decide (i64.wrap (i3 - 1) < (↑(b.1.length) : Int)) then
 (bif !(Op.bytesLess (b.1.getD (i64.wrap (i3 - 1)).toNat gX).1 (b.1.getD i3.toNat gX).1 || (b.1.getD (i64.wrap (i3 - 1)).toNat gX).1 == (b.1.getD i3.toNat gX).1) then
 (some false)
 else
 (bif decide (0 ≤ i64.wrap (i3 - 1)) then
 (bif decide (i64.wrap (i3 - 1) < (↑(b.1.length) : Int)) then
 (bif (b.1.getD (i64.wrap (i3 - 1)).toNat gX).1 == (b.1.getD i3.toNat gX).1 then
 (bif decide (0 ≤ i64.wrap (i3 - 1)) then
 (bif decide (i64.wrap (i3 - 1) < (↑(b.1.length) : Int)) then
 (bif !Op.bytesLess (b.1.getD (i64.wrap (i3 - 1)).toNat gX).2 (b.1.getD i3.toNat gX).2 then
 (some false)
 else
 (next (i64.wrap (i3 + 1)))) else none) else none)
 else
 (next (i64.wrap (i3 + 1)))) else none) else none)) else none) else none)
 else
 (next (i64.wrap (i3 + 1))))))) else none) else none)
 else
 (some true)
def WA (N : Nat) (b : Book) : Nat → Int → Option Bool := lp (fun _ => none) fun next => FC N b next
def ags (N : Nat) (I0 : Book → Nat → Int → Option Bool) (b : Book) : Option Bool :=
 bif decide ((↑(b.1.length) : Int) > 12) then
 (some false)
 else
 (I0 b N 0)
def adI (N : Nat) (b : Book) : Option Bool := ags N (WA N) b
def EN (N : Nat) (list : List Txt) (next : Int → Option Bool) : Int → Option Bool := fun i5 =>
 bif decide (i5 < (↑list.length : Int)) then
 (bif decide (0 ≤ i5) then
 (bif decide (i5 < (↑list.length : Int)) then
 (ob (F.Oj N (list.getD i5.toNat [])) false fun r =>
 bif !r then
 (some false)
 else
 (bif decide (i5 > 0) then
 (bif decide (0 ≤ i64.wrap (i5 - 1)) then
 (bif decide (i64.wrap (i5 - 1) < (↑list.length : Int)) then
 (bif decide (0 ≤ i5) then
 (bif decide (i5 < (↑list.length : Int)) then
 (bif !Op.bytesLess (list.getD (i64.wrap (i5 - 1)).toNat []) (list.getD i5.toNat []) then
 (some false)
 else
 (next (i64.wrap (i5 + 1)))) else none) else none) else none) else none)
 else
 (next (i64.wrap (i5 + 1))))) else none) else none)
 else
 (some true)
def TQ (N : Nat) (list : List Txt) : Nat → Int → Option Bool := lp (fun _ => none) fun next => EN N list next
def aea (N : Nat) (I0 : (List Txt) → Nat → Int → Option Bool) (list : List Txt) (most : Int) : Option Bool :=
 bif decide ((↑list.length : Int) > most) then
 (some false)
 else
 (I0 list N 0)
def Jp (N : Nat) (list : List Txt) (most : Int) : Option Bool := aea N (TQ N) list most
def EG (N : Nat) (b : Book) (x : Txt) (y : Txt) (next : Int → Option Bool) : Int → Option Bool := fun i7 =>
 bif decide (i7 < (↑(b.1.length) : Int)) then
 (bif decide (0 ≤ i7) then
 (bif decide (i7 < (↑(b.1.length) : Int)) then
 (bif (b.1.getD i7.toNat gX).1 == x then
 (bif decide (0 ≤ i7) then
 (bif decide (i7 < (↑(b.1.length) : Int)) then
 (bif (b.1.getD i7.toNat gX).2 == y then
 (some true)
 else
 (bif decide (0 ≤ i7) then
 (bif decide (i7 < (↑(b.1.length) : Int)) then
 (bif (b.1.getD i7.toNat gX).1 == y then
 (bif decide (0 ≤ i7) then
 (bif decide (i7 < (↑(b.1.length) : Int)) then
 (bif (b.1.getD i7.toNat gX).2 == x then
 (some true)
 else
 (next (i64.wrap (i7 + 1)))) else none) else none)
 else
 (next (i64.wrap (i7 + 1)))) else none) else none)) else none) else none)
 else
 (bif decide (0 ≤ i7) then
 (bif decide (i7 < (↑(b.1.length) : Int)) then
 (bif (b.1.getD i7.toNat gX).1 == y then
 (bif decide (0 ≤ i7) then
 (bif decide (i7 < (↑(b.1.length) : Int)) then
 (bif (b.1.getD i7.toNat gX).2 == x then
 (some true)
 else
 (next (i64.wrap (i7 + 1)))) else none) else none)
 else
 (next (i64.wrap (i7 + 1)))) else none) else none)) else none) else none)
 else
 (some false)
def UL (N : Nat) (b : Book) (x : Txt) (y : Txt) : Nat → Int → Option Bool := lp (fun _ => none) fun next => EG N b x y next
def ae5 (N : Nat) (I0 : Book → Txt → Txt → Nat → Int → Option Bool) (b : Book) (x : Txt) (y : Txt) : Option Bool :=
 I0 b x y N 0
def aiR (N : Nat) (b : Book) (x : Txt) (y : Txt) : Option Bool := ae5 N (UL N) b x y
def E5 (N : Nat) (b : Book) (stuff : Txt) (may : List Txt) (next : Int → Option Bool) : Int → Option Bool := fun i7 =>
 bif decide (i7 < (↑may.length : Int)) then
 (bif decide (0 ≤ i7) then
 (bif decide (i7 < (↑may.length : Int)) then
 (ob (F.aiR N b stuff (may.getD i7.toNat [])) false fun r =>
 bif r then
 (some true)
 else
 (next (i64.wrap (i7 + 1)))) else none) else none)
 else
 (some false)
def TW (N : Nat) (b : Book) (stuff : Txt) (may : List Txt) : Nat → Int → Option Bool := lp (fun _ => none) fun next => E5 N b stuff may next
def ai9 (N : Nat) (I0 : Book → Txt → (List Txt) → Nat → Int → Option Bool) (b : Book) (stuff : Txt) (may : List Txt) : Option Bool :=
 I0 b stuff may N 0
def aaE (N : Nat) (b : Book) (stuff : Txt) (may : List Txt) : Option Bool := ai9 N (TW N) b stuff may
def EC (N : Nat) (b : Book) (s : aP) (next : Int → Option Bool) : Int → Option Bool := fun i5 =>
 bif decide (i5 < (↑(s.2.2.2.2.length) : Int)) then
 (bif decide (0 ≤ i5) then
 (bif decide (i5 < (↑(s.2.2.2.2.length) : Int)) then
 (ob (F.aaE N b (s.2.2.2.2.getD i5.toNat []) s.2.2.2.2) false fun r_4 =>
 bif r_4 then
 (some false)
 else
 (next (i64.wrap (i5 + 1)))) else none) else none)
 else
 (some true)
def PQ (N : Nat) (b : Book) (s : aP) : Nat → Int → Option Bool := lp (fun _ => none) fun next => EC N b s next
def ac3 (N : Nat) (I0 : Book → aP → Nat → Int → Option Bool) (b : Book) (s : aP) : Option Bool :=
 ob (F.Oj N s.1) false fun r =>
 bif !r then
 (some false)
 else
 (ob (F.iD N s.2.1 0 1000) false fun r_1 =>
 bif !r_1 then
 (some false)
 else
 (ob (F.iD N s.2.2.1 0 s.2.2.2.1) false fun r_2 =>
 bif !r_2 then
 (some false)
 else
 (bif decide (s.2.2.2.1 > s.2.1) then
 (some false)
 else
 (ob (F.Jp N s.2.2.2.2 8) false fun r_3 =>
 bif !r_3 then
 (some false)
 else
 (I0 b s N 0)))))
def agL (N : Nat) (b : Book) (s : aP) : Option Bool := ac3 N (PQ N) b s
def Ec (N : Nat) (w : Want) (next : Int → Option Bool) : Int → Option Bool := fun i3 =>
 bif decide (i3 < (↑(w.2.2.2.1.length) : Int)) then
 (bif decide (0 ≤ i3) then
 (bif decide (i3 < (↑(w.2.2.2.1.length) : Int)) then
 (ob (F.Oj N (w.2.2.2.1.getD i3.toNat bD).1) false fun r =>
 bif !r then
 (some false)
 else
 (bif decide (i3 > 0) then
 (bif decide (0 ≤ i64.wrap (i3 - 1)) then
 (bif decide (i64.wrap (i3 - 1) < (↑(w.2.2.2.1.length) : Int)) then
 (bif !Op.bytesLess (w.2.2.2.1.getD (i64.wrap (i3 - 1)).toNat bD).1 (w.2.2.2.1.getD i3.toNat bD).1 then
 (some false)
 else
 (ob (F.iD N (w.2.2.2.1.getD i3.toNat bD).2.1 1 3) false fun r_1 =>
 bif !r_1 then
 (some false)
 else
 (bif (w.2.2.2.1.getD i3.toNat bD).2.1 == 3 then
 (bif (w.2.2.2.1.getD i3.toNat bD).2.2 != 0 then
 (some false)
 else
 (bif (w.2.2.2.1.getD i3.toNat bD).2.1 != 3 then
 (bif w.2.1 != 1 then
 (some false)
 else
 (ob (F.iD N (w.2.2.2.1.getD i3.toNat bD).2.2 1 1000) false fun r_2 =>
 bif !r_2 then
 (some false)
 else
 (next (i64.wrap (i3 + 1)))))
 else
 (next (i64.wrap (i3 + 1)))))
 else
 (bif (w.2.2.2.1.getD i3.toNat bD).2.1 != 3 then
 (bif w.2.1 != 1 then
 (some false)
 else
 (ob (F.iD N (w.2.2.2.1.getD i3.toNat bD).2.2 1 1000) false fun r_3 =>
 bif !r_3 then
 (some false)
 else
 (next (i64.wrap (i3 + 1)))))
 else
 (next (i64.wrap (i3 + 1))))))) else none) else none)
 else
 (ob (F.iD N (w.2.2.2.1.getD i3.toNat bD).2.1 1 3) false fun r_4 =>
 bif !r_4 then
 (some false)
 else
 (bif (w.2.2.2.1.getD i3.toNat bD).2.1 == 3 then
 (bif (w.2.2.2.1.getD i3.toNat bD).2.2 != 0 then
 (some false)
 else
 (bif (w.2.2.2.1.getD i3.toNat bD).2.1 != 3 then
 (bif w.2.1 != 1 then
 (some false)
 else
 (ob (F.iD N (w.2.2.2.1.getD i3.toNat bD).2.2 1 1000) false fun r_5 =>
 bif !r_5 then
 (some false)
 else
 (next (i64.wrap (i3 + 1)))))
 else
 (next (i64.wrap (i3 + 1)))))
 else
 (bif (w.2.2.2.1.getD i3.toNat bD).2.1 != 3 then
 (bif w.2.1 != 1 then
 (some false)
 else
 (ob (F.iD N (w.2.2.2.1.getD i3.toNat bD).2.2 1 1000) false fun r_6 =>
 bif !r_6 then
 (some false)
 else
 (next (i64.wrap (i3 + 1)))))
 else
 (next (i64.wrap (i3 + 1)))))))) else none) else none)
 else
 (some true)
def Vd (N : Nat) (w : Want) : Nat → Int → Option Bool := lp (fun _ => none) fun next => Ec N w next
def ahM (N : Nat) (I0 : Want → Nat → Int → Option Bool) (w : Want) : Option Bool :=
 bif decide ((↑(w.2.2.2.1.length) : Int) > 8) then
 (some false)
 else
 (I0 w N 0)
def ag_ (N : Nat) (w : Want) : Option Bool := ahM N (Vd N) w
def x_ (N : Nat) (list : List Txt) (name : Txt) (next : Int → Option Bool) : Int → Option Bool := fun i5 =>
 bif decide (i5 < (↑list.length : Int)) then
 (bif decide (0 ≤ i5) then
 (bif decide (i5 < (↑list.length : Int)) then
 (bif list.getD i5.toNat [] == name then
 (some true)
 else
 (next (i64.wrap (i5 + 1)))) else none) else none)
 else
 (some false)
def Oq (N : Nat) (list : List Txt) (name : Txt) : Nat → Int → Option Bool := lp (fun _ => none) fun next => x_ N list name next
def UQ (N : Nat) (I0 : (List Txt) → Txt → Nat → Int → Option Bool) (list : List Txt) (name : Txt) : Option Bool :=
 I0 list name N 0
def ug (N : Nat) (list : List Txt) (name : Txt) : Option Bool := UQ N (Oq N) list name
def Ep (N : Nat) (a : List Txt) (b : List Txt) (next : Int → Option Bool) : Int → Option Bool := fun i5 =>
 bif decide (i5 < (↑a.length : Int)) then
 (bif decide (0 ≤ i5) then
 (bif decide (i5 < (↑a.length : Int)) then
 (ob (F.ug N b (a.getD i5.toNat [])) false fun r =>
 bif r then
 (some true)
 else
 (next (i64.wrap (i5 + 1)))) else none) else none)
 else
 (some false)
def V7 (N : Nat) (a : List Txt) (b : List Txt) : Nat → Int → Option Bool := lp (fun _ => none) fun next => Ep N a b next
def aiL (N : Nat) (I0 : (List Txt) → (List Txt) → Nat → Int → Option Bool) (a : List Txt) (b : List Txt) : Option Bool :=
 I0 a b N 0
def GY (N : Nat) (a : List Txt) (b : List Txt) : Option Bool := aiL N (V7 N) a b
def abH (N : Nat) (w : Want) : Option Bool :=
 ob (F.iD N w.1 1 1000000) false fun r =>
 bif !r then
 (some false)
 else
 (ob (F.iD N w.2.1 1 3) false fun r_1 =>
 bif !r_1 then
 (some false)
 else
 (ob (F.ag_ N w) false fun r_2 =>
 bif !r_2 then
 (some false)
 else
 (ob (F.Jp N w.2.2.2.2.1 12) false fun r_3 =>
 bif !r_3 then
 (some false)
 else
 (ob (F.Jp N w.2.2.2.2.2 12) false fun r_4 =>
 bif !r_4 then
 (some false)
 else
 (ob (F.GY N w.2.2.2.2.1 w.2.2.2.2.2) false fun r_5 =>
 bif r_5 then
 (some false)
 else
 (bif i64.wrap (i64.wrap ((↑(w.2.2.2.1.length) : Int) + (↑(w.2.2.2.2.1.length) : Int)) + (↑(w.2.2.2.2.2.length) : Int)) == 0 then
 (some false)
 else
 (bif w.2.1 != 1 then
 (bif decide ((↑(w.2.2.2.2.1.length) : Int) > 0) then
 (some false)
 else
 (ob (F.Jp N w.2.2.1 8) false fun r_6 =>
 bif r_6 then
 (some ((w.2.1 == 1) == decide ((↑(w.2.2.1.length) : Int) > 0)))
 else
 (some false)))
 else
 (ob (F.Jp N w.2.2.1 8) false fun r_7 =>
 bif r_7 then
 (some ((w.2.1 == 1) == decide ((↑(w.2.2.1.length) : Int) > 0)))
 else
 (some false)))))))))
def EW (N : Nat) (b : Book) (name : Txt) (next : Int → Option Int) : Int → Option Int := fun i5 =>
 bif decide (i5 < (↑(b.2.1.length) : Int)) then
 (bif decide (0 ≤ i5) then
 (bif decide (i5 < (↑(b.2.1.length) : Int)) then
 (bif (b.2.1.getD i5.toNat az).1 == name then
 (some i5)
 else
 (next (i64.wrap (i5 + 1)))) else none) else none)
 else
 (some (-1))
def Ud (N : Nat) (b : Book) (name : Txt) : Nat → Int → Option Int := lp (fun _ => none) fun next => EW N b name next
def akl (N : Nat) (I0 : Book → Txt → Nat → Int → Option Int) (b : Book) (name : Txt) : Option Int :=
 I0 b name N 0
def D8 (N : Nat) (b : Book) (name : Txt) : Option Int := akl N (Ud N) b name
def ER (N : Nat) (b : Book) (w : Want) (next : Int → Option Bool) : Int → Option Bool := fun i7 =>
 bif decide (i7 < (↑(w.2.2.2.2.2.length) : Int)) then
 (bif decide (0 ≤ i7) then
 (bif decide (i7 < (↑(w.2.2.2.2.2.length) : Int)) then
 (ob (F.ug N b.2.2.1 (w.2.2.2.2.2.getD i7.toNat [])) false fun r_2 =>
 bif !r_2 then
 (some false)
 else
 (next (i64.wrap (i7 + 1)))) else none) else none)
 else
 (some true)
def Bo (N : Nat) (b : Book) (w : Want) : Nat → Int → Option Bool := lp (fun _ => none) fun next => ER N b w next
def EI (N : Nat) (I0 : Book → Want → Nat → Int → Option Bool) (b : Book) (w : Want) (next : Int → Option Bool) : Int → Option Bool := fun i6 =>
 bif decide (i6 < (↑(w.2.2.2.2.1.length) : Int)) then
 (bif decide (0 ≤ i6) then
 (bif decide (i6 < (↑(w.2.2.2.2.1.length) : Int)) then
 (ob (F.ug N b.2.2.1 (w.2.2.2.2.1.getD i6.toNat [])) false fun r_1 =>
 bif !r_1 then
 (some false)
 else
 (next (i64.wrap (i6 + 1)))) else none) else none)
 else
 (I0 b w N 0)
def Az (N : Nat) (b : Book) (w : Want) : Nat → Int → Option Bool := lp (fun _ => none) fun next => EI N (Bo N) b w next
def EU (N : Nat) (I1 : Book → Want → Nat → Int → Option Bool) (b : Book) (w : Want) (next : Int → Option Bool) : Int → Option Bool := fun i5 =>
 bif decide (i5 < (↑(w.2.2.2.1.length) : Int)) then
 (bif decide (0 ≤ i5) then
 (bif decide (i5 < (↑(w.2.2.2.1.length) : Int)) then
 (ob (F.D8 N b (w.2.2.2.1.getD i5.toNat bD).1) (Int.ofNat 0) fun r =>
 bif decide (r < 0) then
 (some false)
 else
 (next (i64.wrap (i5 + 1)))) else none) else none)
 else
 (I1 b w N 0)
def TL (N : Nat) (b : Book) (w : Want) : Nat → Int → Option Bool := lp (fun _ => none) fun next => EU N (Az N) b w next
def af4 (N : Nat) (I2 : Book → Want → Nat → Int → Option Bool) (b : Book) (w : Want) : Option Bool :=
 I2 b w N 0
def aco (N : Nat) (b : Book) (w : Want) : Option Bool := af4 N (TL N) b w
def xy (N : Nat) (a : List Txt) (b : List Txt) (next : Int → Option Bool) : Int → Option Bool := fun i5 =>
 bif decide (i5 < (↑a.length : Int)) then
 (bif decide (0 ≤ i5) then
 (bif decide (i5 < (↑a.length : Int)) then
 (ob (F.ug N b (a.getD i5.toNat [])) false fun r =>
 bif !r then
 (some false)
 else
 (next (i64.wrap (i5 + 1)))) else none) else none)
 else
 (some true)
def PV (N : Nat) (a : List Txt) (b : List Txt) : Nat → Int → Option Bool := lp (fun _ => none) fun next => xy N a b next
def Ux (N : Nat) (I0 : (List Txt) → (List Txt) → Nat → Int → Option Bool) (a : List Txt) (b : List Txt) : Option Bool :=
 I0 a b N 0
def nD (N : Nat) (a : List Txt) (b : List Txt) : Option Bool := Ux N (PV N) a b
def afA (N : Nat) (s : aP) (w : Want) (u : Use) : Option Bool :=
 bif w.2.1 == 2 then
 (bif decide (s.2.2.2.1 > 0) then
 (some false)
 else
 (bif w.2.1 == 1 then
 (bif u.2.1 != 2 then
 (ob (F.nD N s.2.2.2.2 w.2.2.1) false fun r =>
 bif !r then
 (some false)
 else
 (bif w.2.1 == 1 then
 (bif u.2.1 != 1 then
 (ob (F.nD N w.2.2.1 s.2.2.2.2) false fun r_1 =>
 bif !r_1 then
 (some false)
 else
 (some (decide (i64.wrap (s.2.2.1 + u.2.2) ≤ s.2.2.2.1))))
 else
 (some (decide (i64.wrap (s.2.2.1 + u.2.2) ≤ s.2.2.2.1))))
 else
 (some (decide (i64.wrap (s.2.2.1 + u.2.2) ≤ s.2.2.2.1)))))
 else
 (bif w.2.1 == 1 then
 (bif u.2.1 != 1 then
 (ob (F.nD N w.2.2.1 s.2.2.2.2) false fun r_2 =>
 bif !r_2 then
 (some false)
 else
 (some (decide (i64.wrap (s.2.2.1 + u.2.2) ≤ s.2.2.2.1))))
 else
 (some (decide (i64.wrap (s.2.2.1 + u.2.2) ≤ s.2.2.2.1))))
 else
 (some (decide (i64.wrap (s.2.2.1 + u.2.2) ≤ s.2.2.2.1)))))
 else
 (bif w.2.1 == 1 then
 (bif u.2.1 != 1 then
 (ob (F.nD N w.2.2.1 s.2.2.2.2) false fun r_3 =>
 bif !r_3 then
 (some false)
 else
 (some (decide (i64.wrap (s.2.2.1 + u.2.2) ≤ s.2.2.2.1))))
 else
 (some (decide (i64.wrap (s.2.2.1 + u.2.2) ≤ s.2.2.2.1))))
 else
 (some (decide (i64.wrap (s.2.2.1 + u.2.2) ≤ s.2.2.2.1))))))
 else
 (bif w.2.1 == 1 then
 (bif u.2.1 != 2 then
 (ob (F.nD N s.2.2.2.2 w.2.2.1) false fun r_4 =>
 bif !r_4 then
 (some false)
 else
 (bif w.2.1 == 1 then
 (bif u.2.1 != 1 then
 (ob (F.nD N w.2.2.1 s.2.2.2.2) false fun r_5 =>
 bif !r_5 then
 (some false)
 else
 (some (decide (i64.wrap (s.2.2.1 + u.2.2) ≤ s.2.2.2.1))))
 else
 (some (decide (i64.wrap (s.2.2.1 + u.2.2) ≤ s.2.2.2.1))))
 else
 (some (decide (i64.wrap (s.2.2.1 + u.2.2) ≤ s.2.2.2.1)))))
 else
 (bif w.2.1 == 1 then
 (bif u.2.1 != 1 then
 (ob (F.nD N w.2.2.1 s.2.2.2.2) false fun r_6 =>
 bif !r_6 then
 (some false)
 else
 (some (decide (i64.wrap (s.2.2.1 + u.2.2) ≤ s.2.2.2.1))))
 else
 (some (decide (i64.wrap (s.2.2.1 + u.2.2) ≤ s.2.2.2.1))))
 else
 (some (decide (i64.wrap (s.2.2.1 + u.2.2) ≤ s.2.2.2.1)))))
 else
 (bif w.2.1 == 1 then
 (bif u.2.1 != 1 then
 (ob (F.nD N w.2.2.1 s.2.2.2.2) false fun r_7 =>
 bif !r_7 then
 (some false)
 else
 (some (decide (i64.wrap (s.2.2.1 + u.2.2) ≤ s.2.2.2.1))))
 else
 (some (decide (i64.wrap (s.2.2.1 + u.2.2) ≤ s.2.2.2.1))))
 else
 (some (decide (i64.wrap (s.2.2.1 + u.2.2) ≤ s.2.2.2.1)))))
def EM (N : Nat) (b : Book) (p : Part) (next : Int → Option Bool) : Int → Option Bool := fun i5 =>
 bif decide (i5 < (↑(p.1.2.2.2.1.length) : Int)) then
 (bif decide (0 ≤ i5) then
 (bif decide (i5 < (↑(p.1.2.2.2.1.length) : Int)) then
 (ob (F.D8 N b (p.1.2.2.2.1.getD i5.toNat bD).1) (Int.ofNat 0) fun r_2 =>
 bif decide (0 ≤ r_2) then
 (bif decide (r_2 < (↑(b.2.1.length) : Int)) then
 (bif decide (0 ≤ i5) then
 (bif decide (i5 < (↑(p.1.2.2.2.1.length) : Int)) then
 (ob (F.afA N (b.2.1.getD r_2.toNat az) p.1 (p.1.2.2.2.1.getD i5.toNat bD)) false fun r_3 =>
 bif !r_3 then
 (some false)
 else
 (next (i64.wrap (i5 + 1)))) else none) else none) else none) else none) else none) else none)
 else
 (some true)
def Wy (N : Nat) (b : Book) (p : Part) : Nat → Int → Option Bool := lp (fun _ => none) fun next => EM N b p next
def ahl (N : Nat) (I0 : Book → Part → Nat → Int → Option Bool) (b : Book) (p : Part) : Option Bool :=
 ob (F.abH N p.1) false fun r =>
 bif !r then
 (some false)
 else
 (bif decide (p.1.1 > b.2.2.2.2) then
 (some false)
 else
 (ob (F.aco N b p.1) false fun r_1 =>
 bif !r_1 then
 (some false)
 else
 (I0 b p N 0)))
def ahJ (N : Nat) (b : Book) (p : Part) : Option Bool := ahl N (Wy N) b p
def Fb (N : Nat) (w : Want) (next : Int → (List Txt) → Option (List Txt)) : Int → (List Txt) → Option (List Txt) := fun i4 out3a =>
 bif decide (i4 < (↑(w.2.2.2.1.length) : Int)) then
 (bif decide (0 ≤ i4) then
 (bif decide (i4 < (↑(w.2.2.2.1.length) : Int)) then
 (bif decide ((out3a.length + [(w.2.2.2.1.getD i4.toNat bD).1].length) * 16 ≤ lim) then
 (next (i64.wrap (i4 + 1)) (out3a ++ [(w.2.2.2.1.getD i4.toNat bD).1])) else none) else none) else none)
 else
 (some out3a)
def TN (N : Nat) (w : Want) : Nat → Int → (List Txt) → Option (List Txt) := lp (fun _ _ => none) fun next => Fb N w next
def ajP (N : Nat) (I0 : Want → Nat → Int → (List Txt) → Option (List Txt)) (w : Want) : Option (List Txt) :=
 I0 w N 0 []
def OI (N : Nat) (w : Want) : Option (List Txt) := ajP N (TN N) w
def U0 (N : Nat) (a : Want) (b : Want) : Option Bool :=
 ob (F.GY N a.2.2.2.2.1 b.2.2.2.2.1) false fun r =>
 bif r then
 (some true)
 else
 (ob (F.GY N a.2.2.2.2.1 b.2.2.2.2.2) false fun r_1 =>
 bif r_1 then
 (some true)
 else
 (ob (F.GY N a.2.2.2.2.2 b.2.2.2.2.1) false fun r_2 =>
 some r_2))
def Eu (N : Nat) (nx0 : Int → Option Bool) (b : Book) (i3 : Int) (w4c0 : Int) (w4c1 : Int) (w4c2 : List Txt) (w4c3 : List Use) (w4c4 : List Txt) (w4c5 : List Txt) (next : Int → Option Bool) : Int → Option Bool := fun k5 =>
 bif decide (k5 < i3) then
 (bif decide (0 ≤ k5) then
 (bif decide (k5 < (↑(b.2.2.2.1.length) : Int)) then
 (ob (F.OI N (w4c0, w4c1, w4c2, w4c3, w4c4, w4c5)) [] fun r_1 =>
 ob (F.OI N (b.2.2.2.1.getD k5.toNat bC).1) [] fun r_2 =>
 ob (F.GY N r_1 r_2) false fun r_3 =>
 bif r_3 then
 (some false)
 else
 (ob (F.U0 N (w4c0, w4c1, w4c2, w4c3, w4c4, w4c5) (b.2.2.2.1.getD k5.toNat bC).1) false fun r_4 =>
 bif r_4 then
 (some false)
 else
 (next (i64.wrap (k5 + 1))))) else none) else none)
 else
 (nx0 (i64.wrap (i3 + 1)))
def IB (N : Nat) (nx0 : Int → Option Bool) (b : Book) (i3 : Int) (w4c0 : Int) (w4c1 : Int) (w4c2 : List Txt) (w4c3 : List Use) (w4c4 : List Txt) (w4c5 : List Txt) : Nat → Int → Option Bool := lp (fun _ => none) fun next => Eu N nx0 b i3 w4c0 w4c1 w4c2 w4c3 w4c4 w4c5 next
def ES (N : Nat) (I0 : Int → Int → Int → (List Txt) → (List Use) → (List Txt) → (List Txt) → Nat → Int → Option Bool) (b : Book) (next : Int → Option Bool) : Int → Option Bool := fun i3 =>
 bif decide (i3 < (↑(b.2.2.2.1.length) : Int)) then
 (bif decide (0 ≤ i3) then
 (bif decide (i3 < (↑(b.2.2.2.1.length) : Int)) then
 (bif decide (0 ≤ i3) then
 (bif decide (i3 < (↑(b.2.2.2.1.length) : Int)) then
 (ob (F.ahJ N b (b.2.2.2.1.getD i3.toNat bC)) false fun r =>
 bif !r then
 (some false)
 else
 (bif decide (i3 > 0) then
 (bif decide (0 ≤ i64.wrap (i3 - 1)) then
 (bif decide (i64.wrap (i3 - 1) < (↑(b.2.2.2.1.length) : Int)) then
 (bif decide ((b.2.2.2.1.getD (i64.wrap (i3 - 1)).toNat bC).1.1 ≥ (b.2.2.2.1.getD i3.toNat bC).1.1) then
 (some false)
 else
 (I0 i3 ((b.2.2.2.1.getD i3.toNat bC).1.1) ((b.2.2.2.1.getD i3.toNat bC).1.2.1) ((b.2.2.2.1.getD i3.toNat bC).1.2.2.1) ((b.2.2.2.1.getD i3.toNat bC).1.2.2.2.1) ((b.2.2.2.1.getD i3.toNat bC).1.2.2.2.2.1) ((b.2.2.2.1.getD i3.toNat bC).1.2.2.2.2.2) N 0)) else none) else none)
 else
 (I0 i3 ((b.2.2.2.1.getD i3.toNat bC).1.1) ((b.2.2.2.1.getD i3.toNat bC).1.2.1) ((b.2.2.2.1.getD i3.toNat bC).1.2.2.1) ((b.2.2.2.1.getD i3.toNat bC).1.2.2.2.1) ((b.2.2.2.1.getD i3.toNat bC).1.2.2.2.2.1) ((b.2.2.2.1.getD i3.toNat bC).1.2.2.2.2.2) N 0))) else none) else none) else none) else none)
 else
 (some true)
def Vu (N : Nat) (b : Book) : Nat → Int → Option Bool := lp (fun _ => none) fun next => ES N (IB N next b) b next
def aho (N : Nat) (I1 : Book → Nat → Int → Option Bool) (b : Book) : Option Bool :=
 bif decide ((↑(b.2.2.2.1.length) : Int) > 6) then
 (some false)
 else
 (I1 b N 0)
def akM (N : Nat) (b : Book) : Option Bool := aho N (Vu N) b
def EE (N : Nat) (b : Book) (next : Int → Option Bool) : Int → Option Bool := fun i3 =>
 bif decide (i3 < (↑(b.2.1.length) : Int)) then
 (bif decide (0 ≤ i3) then
 (bif decide (i3 < (↑(b.2.1.length) : Int)) then
 (ob (F.agL N b (b.2.1.getD i3.toNat az)) false fun r_3 =>
 bif !r_3 then
 (some false)
 else
 (bif decide (i3 > 0) then
 (bif decide (0 ≤ i64.wrap (i3 - 1)) then
 (bif decide (i64.wrap (i3 - 1) < (↑(b.2.1.length) : Int)) then
 (bif decide (0 ≤ i3) then
 (bif decide (i3 < (↑(b.2.1.length) : Int)) then
 (bif !Op.bytesLess (b.2.1.getD (i64.wrap (i3 - 1)).toNat az).1 (b.2.1.getD i3.toNat az).1 then
 (some false)
 else
 (next (i64.wrap (i3 + 1)))) else none) else none) else none) else none)
 else
 (next (i64.wrap (i3 + 1))))) else none) else none)
 else
 (ob (F.akM N b) false fun r_4 =>
 some r_4)
def Oy (N : Nat) (b : Book) : Nat → Int → Option Bool := lp (fun _ => none) fun next => EE N b next
def aiS (N : Nat) (I0 : Book → Nat → Int → Option Bool) (b : Book) : Option Bool :=
 ob (F.adI N b) false fun r =>
 bif !r then
 (some false)
 else
 (bif decide ((↑(b.2.1.length) : Int) > 8) then
 (some false)
 else
 (ob (F.Jp N b.2.2.1 12) false fun r_1 =>
 bif !r_1 then
 (some false)
 else
 (ob (F.iD N b.2.2.2.2 0 1000000) false fun r_2 =>
 bif !r_2 then
 (some false)
 else
 (I0 b N 0))))
def Jj (N : Nat) (b : Book) : Option Bool := aiS N (Oy N) b
def NV (N : Nat) (old : Book) (b : Book) : Option (Book × Txt) :=
 ob (F.Jj N b) false fun r =>
 bif !r then
 (some (old, [110, 111]))
 else
 (some (b, [111, 107]))
def Rl (N : Nat) (b : Book) (ws : List Txt) : Option (Book × Txt) :=
 ob (F.yD N b) dB fun r =>
 bif decide (1 < (↑ws.length : Int)) then
 (bif decide (2 < (↑ws.length : Int)) then
 (bif decide ((List.length r.1 + 1) * 32 ≤ lim) then
 (ob (F.NV N b (r.1 ++ [(ws.getD (Int.toNat 1) [], ws.getD (Int.toNat 2) [])], r.2)) (dB, []) fun r_1 =>
 some r_1) else none) else none) else none
def uB (N : Nat) (s : Txt) (next : Int → Int → Option Int) : Int → Int → Option Int := fun n3 i4 =>
 bif decide (i4 < (↑s.length : Int)) then
 (bif decide (0 ≤ i4) then
 (bif decide (i4 < (↑s.length : Int)) then
 (bif decide ((↑(s.getD i4.toNat 0).toNat : Int) < 48) then
 (some (-1))
 else
 (bif decide (0 ≤ i4) then
 (bif decide (i4 < (↑s.length : Int)) then
 (bif decide ((↑(s.getD i4.toNat 0).toNat : Int) > 57) then
 (some (-1))
 else
 (bif decide (0 ≤ i4) then
 (bif decide (i4 < (↑s.length : Int)) then
 (next (i64.wrap (i64.wrap (i64.wrap (n3 * 10) + i64.wrap (↑(s.getD i4.toNat 0).toNat : Int)) - 48)) (i64.wrap (i4 + 1))) else none) else none)) else none) else none)) else none) else none)
 else
 (some n3)
def wH (N : Nat) (s : Txt) : Nat → Int → Int → Option Int := lp (fun _ _ => none) fun next => uB N s next
def aeI (N : Nat) (I0 : Txt → Nat → Int → Int → Option Int) (s : Txt) : Option Int :=
 ob (F.iD N (↑s.length : Int) 1 7) false fun r =>
 bif !r then
 (some (-1))
 else
 (bif decide ((↑s.length : Int) > 1) then
 (bif decide (0 < (↑s.length : Int)) then
 (bif (↑(s.getD (Int.toNat 0) 0).toNat : Int) == 48 then
 (some (-1))
 else
 (I0 s N 0 0)) else none)
 else
 (I0 s N 0 0))
def t_ (N : Nat) (s : Txt) : Option Int := aeI N (wH N) s
def I4 (N : Nat) (s : Txt) : Option (List Txt) :=
 bif s == [45] then
 (some [])
 else
 (ob (F.Dz N s 44) [] fun r =>
 some r)
def uP (N : Nat) (b : Book) (ws : List Txt) (r : Book) (t4c4 : Int) (next : Int → Option (Book × Txt)) : Int → Option (Book × Txt) := fun k7 =>
 bif decide (k7 < (↑(r.2.1.length) : Int)) then
 (bif decide (0 ≤ k7) then
 (bif decide (k7 < (↑(r.2.1.length) : Int)) then
 (bif decide (1 < (↑ws.length : Int)) then
 (bif Op.bytesLess (r.2.1.getD k7.toNat az).1 (ws.getD (Int.toNat 1) []) then
 (next (i64.wrap (k7 + 1)))
 else
 (bif decide (1 < (↑ws.length : Int)) then
 (bif decide (2 < (↑ws.length : Int)) then
 (ob (F.t_ N (ws.getD (Int.toNat 2) [])) (Int.ofNat 0) fun r_1 =>
 bif decide (3 < (↑ws.length : Int)) then
 (ob (F.t_ N (ws.getD (Int.toNat 3) [])) (Int.ofNat 0) fun r_2 =>
 bif decide (3 < (↑ws.length : Int)) then
 (ob (F.t_ N (ws.getD (Int.toNat 3) [])) default fun r_3 =>
 bif decide (4 < (↑ws.length : Int)) then
 (ob (F.I4 N (ws.getD (Int.toNat 4) [])) [] fun r_4 =>
 bif decide (0 ≤ k7) then
 (bif decide (k7 ≤ (↑(r.2.1.length) : Int)) then
 (bif decide ((0 + (List.drop (Int.toNat 0) (List.take k7.toNat r.2.1)).length) * 64 ≤ lim) then
 (bif decide ((([] ++ List.drop (Int.toNat 0) (List.take k7.toNat r.2.1)).length + 1) * 64 ≤ lim) then
 (bif decide (0 ≤ k7) then
 (bif decide (k7 ≤ (↑(r.2.1.length) : Int)) then
 (bif decide ((↑(r.2.1.length) : Int) ≤ (↑(r.2.1.length) : Int)) then
 (bif decide ((([] ++ List.drop (Int.toNat 0) (List.take k7.toNat r.2.1) ++ [(ws.getD (Int.toNat 1) [], r_1, r_2, r_2, r_4)]).length + (List.drop k7.toNat (List.take (↑(r.2.1.length) : Int).toNat r.2.1)).length) * 64 ≤ lim) then
 (ob (F.NV N b (r.1, [] ++ List.drop (Int.toNat 0) (List.take k7.toNat r.2.1) ++ [(ws.getD (Int.toNat 1) [], r_1, r_2, r_2, r_4)] ++ List.drop k7.toNat (List.take (↑(r.2.1.length) : Int).toNat r.2.1), r.2.2)) (dB, []) fun r_5 =>
 some r_5) else none) else none) else none) else none) else none) else none) else none) else none) else none) else none) else none) else none) else none)) else none) else none) else none)
 else
 (bif decide (1 < (↑ws.length : Int)) then
 (bif decide (2 < (↑ws.length : Int)) then
 (ob (F.t_ N (ws.getD (Int.toNat 2) [])) (Int.ofNat 0) fun r_6 =>
 bif decide (3 < (↑ws.length : Int)) then
 (ob (F.t_ N (ws.getD (Int.toNat 3) [])) (Int.ofNat 0) fun r_7 =>
 bif decide (3 < (↑ws.length : Int)) then
 (ob (F.t_ N (ws.getD (Int.toNat 3) [])) default fun r_8 =>
 bif decide (4 < (↑ws.length : Int)) then
 (ob (F.I4 N (ws.getD (Int.toNat 4) [])) [] fun r_9 =>
 bif decide (0 ≤ k7) then
 (bif decide (k7 ≤ (↑(r.2.1.length) : Int)) then
 (bif decide ((0 + (List.drop (Int.toNat 0) (List.take k7.toNat r.2.1)).length) * 64 ≤ lim) then
 (bif decide ((([] ++ List.drop (Int.toNat 0) (List.take k7.toNat r.2.1)).length + 1) * 64 ≤ lim) then
 (bif decide (0 ≤ k7) then
 (bif decide (k7 ≤ (↑(r.2.1.length) : Int)) then
 (bif decide ((↑(r.2.1.length) : Int) ≤ (↑(r.2.1.length) : Int)) then
 (bif decide ((([] ++ List.drop (Int.toNat 0) (List.take k7.toNat r.2.1) ++ [(ws.getD (Int.toNat 1) [], r_6, r_7, r_7, r_9)]).length + (List.drop k7.toNat (List.take (↑(r.2.1.length) : Int).toNat r.2.1)).length) * 64 ≤ lim) then
 (ob (F.NV N b (r.1, [] ++ List.drop (Int.toNat 0) (List.take k7.toNat r.2.1) ++ [(ws.getD (Int.toNat 1) [], r_6, r_7, r_7, r_9)] ++ List.drop k7.toNat (List.take (↑(r.2.1.length) : Int).toNat r.2.1), r.2.2)) (dB, []) fun r_10 =>
 some r_10) else none) else none) else none) else none) else none) else none) else none) else none) else none) else none) else none) else none) else none)
def CB (N : Nat) (b : Book) (ws : List Txt) (r : Book) (t4c4 : Int) : Nat → Int → Option (Book × Txt) := lp (fun _ => none) fun next => uP N b ws r t4c4 next
def af5 (N : Nat) (I0 : Book → (List Txt) → Book → Int → Nat → Int → Option (Book × Txt)) (b : Book) (ws : List Txt) : Option (Book × Txt) :=
 ob (F.yD N b) dB fun r =>
 I0 b ws r 0 N 0
def aiK (N : Nat) (b : Book) (ws : List Txt) : Option (Book × Txt) := af5 N (CB N) b ws
def Eh (N : Nat) (r : List Txt) (next : Int → (List Use) → Option (List Use)) : Int → (List Use) → Option (List Use) := fun i5 out3a =>
 bif decide (i5 < (↑(r.length) : Int)) then
 (bif decide (0 ≤ i5) then
 (bif decide (i5 < (↑(r.length) : Int)) then
 (ob (F.Dz N (r.getD i5.toNat []) 60) [] fun r_1 =>
 bif decide (0 ≤ i5) then
 (bif decide (i5 < (↑(r.length) : Int)) then
 (ob (F.Dz N (r.getD i5.toNat []) 62) [] fun r_2 =>
 bif (↑(r_1.length) : Int) == 2 then
 (bif decide (0 < (↑(r_1.length) : Int)) then
 (bif decide (1 < (↑(r_1.length) : Int)) then
 (ob (F.t_ N (r_1.getD (Int.toNat 1) [])) (Int.ofNat 0) fun r_3 =>
 bif decide ((out3a.length + 1) * 32 ≤ lim) then
 (next (i64.wrap (i5 + 1)) (out3a ++ [(r_1.getD (Int.toNat 0) [], 1, r_3)])) else none) else none) else none)
 else
 (bif (↑(r_2.length) : Int) == 2 then
 (bif decide (0 < (↑(r_2.length) : Int)) then
 (bif decide (1 < (↑(r_2.length) : Int)) then
 (ob (F.t_ N (r_2.getD (Int.toNat 1) [])) (Int.ofNat 0) fun r_4 =>
 bif decide ((out3a.length + 1) * 32 ≤ lim) then
 (next (i64.wrap (i5 + 1)) (out3a ++ [(r_2.getD (Int.toNat 0) [], 2, r_4)])) else none) else none) else none)
 else
 (bif decide (0 ≤ i5) then
 (bif decide (i5 < (↑(r.length) : Int)) then
 (bif decide ((out3a.length + 1) * 32 ≤ lim) then
 (next (i64.wrap (i5 + 1)) (out3a ++ [(r.getD i5.toNat [], 3, 0)])) else none) else none) else none))) else none) else none) else none) else none)
 else
 (some out3a)
def TS (N : Nat) (r : List Txt) : Nat → Int → (List Use) → Option (List Use) := lp (fun _ _ => none) fun next => Eh N r next
def ajG (N : Nat) (I0 : (List Txt) → Nat → Int → (List Use) → Option (List Use)) (s : Txt) : Option (List Use) :=
 ob (F.I4 N s) [] fun r =>
 I0 r N 0 []
def ahS (N : Nat) (s : Txt) : Option (List Use) := ajG N (TS N) s
def Ik (N : Nat) (kind : Int) (dU : Txt) (ws : List Txt) : Option Want :=
 bif decide (0 < (↑ws.length : Int)) then
 (ob (F.t_ N (ws.getD (Int.toNat 0) [])) (Int.ofNat 0) fun r =>
 ob (F.I4 N dU) [] fun r_1 =>
 bif decide (1 < (↑ws.length : Int)) then
 (ob (F.ahS N (ws.getD (Int.toNat 1) [])) [] fun r_2 =>
 bif decide (2 < (↑ws.length : Int)) then
 (ob (F.I4 N (ws.getD (Int.toNat 2) [])) [] fun r_3 =>
 bif decide (3 < (↑ws.length : Int)) then
 (ob (F.I4 N (ws.getD (Int.toNat 3) [])) [] fun r_4 =>
 some (r, kind, r_1, r_2, r_3, r_4)) else none) else none) else none) else none
def ED (N : Nat) (b : Book) (number : Int) (next : Int → Option Int) : Int → Option Int := fun i5 =>
 bif decide (i5 < (↑(b.2.2.2.1.length) : Int)) then
 (bif decide (0 ≤ i5) then
 (bif decide (i5 < (↑(b.2.2.2.1.length) : Int)) then
 (bif (b.2.2.2.1.getD i5.toNat bC).1.1 == number then
 (some i5)
 else
 (next (i64.wrap (i5 + 1)))) else none) else none)
 else
 (some (-1))
def V6 (N : Nat) (b : Book) (number : Int) : Nat → Int → Option Int := lp (fun _ => none) fun next => ED N b number next
def afW (N : Nat) (I0 : Book → Int → Nat → Int → Option Int) (b : Book) (number : Int) : Option Int :=
 I0 b number N 0
def QM (N : Nat) (b : Book) (number : Int) : Option Int := afW N (V6 N) b number
def Ej (N : Nat) (a : List Txt) (b : List Txt) (next : Int → Option Bool) : Int → Option Bool := fun i5 =>
 bif decide (i5 < (↑a.length : Int)) then
 (bif decide (0 ≤ i5) then
 (bif decide (i5 < (↑a.length : Int)) then
 (bif decide (0 ≤ i5) then
 (bif decide (i5 < (↑b.length : Int)) then
 (bif !a.getD i5.toNat [] == b.getD i5.toNat [] then
 (some false)
 else
 (next (i64.wrap (i5 + 1)))) else none) else none) else none) else none)
 else
 (some true)
def Uj (N : Nat) (a : List Txt) (b : List Txt) : Nat → Int → Option Bool := lp (fun _ => none) fun next => Ej N a b next
def aj1 (N : Nat) (I0 : (List Txt) → (List Txt) → Nat → Int → Option Bool) (a : List Txt) (b : List Txt) : Option Bool :=
 bif (↑a.length : Int) != (↑b.length : Int) then
 (some false)
 else
 (I0 a b N 0)
def Ub (N : Nat) (a : List Txt) (b : List Txt) : Option Bool := aj1 N (Uj N) a b
def Fz (N : Nat) (a : Want) (b : Want) (next : Int → Option Bool) : Int → Option Bool := fun i5 =>
 bif decide (i5 < (↑(a.2.2.2.1.length) : Int)) then
 (bif decide (0 ≤ i5) then
 (bif decide (i5 < (↑(a.2.2.2.1.length) : Int)) then
 (bif decide (0 ≤ i5) then
 (bif decide (i5 < (↑(b.2.2.2.1.length) : Int)) then
 (bif !((a.2.2.2.1.getD i5.toNat bD).1 == (b.2.2.2.1.getD i5.toNat bD).1 && ((a.2.2.2.1.getD i5.toNat bD).2.1 == (b.2.2.2.1.getD i5.toNat bD).2.1 && ((a.2.2.2.1.getD i5.toNat bD).2.2 == (b.2.2.2.1.getD i5.toNat bD).2.2 && true))) then
 (some false)
 else
 (next (i64.wrap (i5 + 1)))) else none) else none) else none) else none)
 else
 (some true)
def Ox (N : Nat) (a : Want) (b : Want) : Nat → Int → Option Bool := lp (fun _ => none) fun next => Fz N a b next
def adw (N : Nat) (I0 : Want → Want → Nat → Int → Option Bool) (a : Want) (b : Want) : Option Bool :=
 bif a.1 != b.1 then
 (some false)
 else
 (bif a.2.1 != b.2.1 then
 (some false)
 else
 (bif (↑(a.2.2.2.1.length) : Int) != (↑(b.2.2.2.1.length) : Int) then
 (some false)
 else
 (ob (F.Ub N a.2.2.1 b.2.2.1) false fun r =>
 bif !r then
 (some false)
 else
 (ob (F.Ub N a.2.2.2.2.1 b.2.2.2.2.1) false fun r_1 =>
 bif !r_1 then
 (some false)
 else
 (ob (F.Ub N a.2.2.2.2.2 b.2.2.2.2.2) false fun r_2 =>
 bif !r_2 then
 (some false)
 else
 (I0 a b N 0))))))
def abm (N : Nat) (a : Want) (b : Want) : Option Bool := adw N (Ox N) a b
def Ei (N : Nat) (b : Book) (x : List Txt) (y : List Txt) (next : Int → Option Bool) : Int → Option Bool := fun i7 =>
 bif decide (i7 < (↑x.length : Int)) then
 (bif decide (0 ≤ i7) then
 (bif decide (i7 < (↑x.length : Int)) then
 (ob (F.aaE N b (x.getD i7.toNat []) y) false fun r =>
 bif r then
 (some true)
 else
 (next (i64.wrap (i7 + 1)))) else none) else none)
 else
 (some false)
def UG (N : Nat) (b : Book) (x : List Txt) (y : List Txt) : Nat → Int → Option Bool := lp (fun _ => none) fun next => Ei N b x y next
def ad3 (N : Nat) (I0 : Book → (List Txt) → (List Txt) → Nat → Int → Option Bool) (b : Book) (x : List Txt) (y : List Txt) : Option Bool :=
 I0 b x y N 0
def Us (N : Nat) (b : Book) (x : List Txt) (y : List Txt) : Option Bool := ad3 N (UG N) b x y
def yu (N : Nat) (a : List Txt) (b : List Txt) (next : Int → Int → Option Int) : Int → Int → Option Int := fun n5 i6 =>
 bif decide (i6 < (↑b.length : Int)) then
 (bif decide (0 ≤ i6) then
 (bif decide (i6 < (↑b.length : Int)) then
 (ob (F.ug N a (b.getD i6.toNat [])) false fun r =>
 bif !r then
 (next (i64.wrap (n5 + 1)) (i64.wrap (i6 + 1)))
 else
 (next n5 (i64.wrap (i6 + 1)))) else none) else none)
 else
 (some n5)
def WP (N : Nat) (a : List Txt) (b : List Txt) : Nat → Int → Int → Option Int := lp (fun _ _ => none) fun next => yu N a b next
def aip (N : Nat) (I0 : (List Txt) → (List Txt) → Nat → Int → Int → Option Int) (a : List Txt) (b : List Txt) : Option Int :=
 I0 a b N (↑a.length : Int) 0
def Rk (N : Nat) (a : List Txt) (b : List Txt) : Option Int := aip N (WP N) a b
def yZ (N : Nat) (b : Book) (w : Want) (next : Int → Option Int) : Int → Option Int := fun i5 =>
 bif decide (i5 < (↑(w.2.2.2.1.length) : Int)) then
 (bif w.2.1 == 1 then
 (bif decide (0 ≤ i5) then
 (bif decide (i5 < (↑(w.2.2.2.1.length) : Int)) then
 (ob (F.D8 N b (w.2.2.2.1.getD i5.toNat bD).1) (Int.ofNat 0) fun r_1 =>
 bif decide (0 ≤ r_1) then
 (bif decide (r_1 < (↑(b.2.1.length) : Int)) then
 (bif decide (0 ≤ i5) then
 (bif decide (i5 < (↑(w.2.2.2.1.length) : Int)) then
 (bif (w.2.2.2.1.getD i5.toNat bD).2.1 != 2 then
 (ob (F.nD N (b.2.1.getD r_1.toNat az).2.2.2.2 w.2.2.1) false fun r_2 =>
 bif !r_2 then
 (some 8)
 else
 (bif decide (0 ≤ i5) then
 (bif decide (i5 < (↑(w.2.2.2.1.length) : Int)) then
 (bif (w.2.2.2.1.getD i5.toNat bD).2.1 == 2 then
 (ob (F.Us N b w.2.2.1 (b.2.1.getD r_1.toNat az).2.2.2.2) false fun r_3 =>
 bif r_3 then
 (some 8)
 else
 (bif decide (0 ≤ i5) then
 (bif decide (i5 < (↑(w.2.2.2.1.length) : Int)) then
 (bif (w.2.2.2.1.getD i5.toNat bD).2.1 == 2 then
 (ob (F.Rk N (b.2.1.getD r_1.toNat az).2.2.2.2 w.2.2.1) (Int.ofNat 0) fun r_4 =>
 bif decide (r_4 > 8) then
 (some 5)
 else
 (next (i64.wrap (i5 + 1))))
 else
 (next (i64.wrap (i5 + 1)))) else none) else none))
 else
 (bif decide (0 ≤ i5) then
 (bif decide (i5 < (↑(w.2.2.2.1.length) : Int)) then
 (bif (w.2.2.2.1.getD i5.toNat bD).2.1 == 2 then
 (ob (F.Rk N (b.2.1.getD r_1.toNat az).2.2.2.2 w.2.2.1) (Int.ofNat 0) fun r_5 =>
 bif decide (r_5 > 8) then
 (some 5)
 else
 (next (i64.wrap (i5 + 1))))
 else
 (next (i64.wrap (i5 + 1)))) else none) else none)) else none) else none))
 else
 (bif decide (0 ≤ i5) then
 (bif decide (i5 < (↑(w.2.2.2.1.length) : Int)) then
 (bif (w.2.2.2.1.getD i5.toNat bD).2.1 == 2 then
 (ob (F.Us N b w.2.2.1 (b.2.1.getD r_1.toNat az).2.2.2.2) false fun r_6 =>
 bif r_6 then
 (some 8)
 else
 (bif decide (0 ≤ i5) then
 (bif decide (i5 < (↑(w.2.2.2.1.length) : Int)) then
 (bif (w.2.2.2.1.getD i5.toNat bD).2.1 == 2 then
 (ob (F.Rk N (b.2.1.getD r_1.toNat az).2.2.2.2 w.2.2.1) (Int.ofNat 0) fun r_7 =>
 bif decide (r_7 > 8) then
 (some 5)
 else
 (next (i64.wrap (i5 + 1))))
 else
 (next (i64.wrap (i5 + 1)))) else none) else none))
 else
 (bif decide (0 ≤ i5) then
 (bif decide (i5 < (↑(w.2.2.2.1.length) : Int)) then
 (bif (w.2.2.2.1.getD i5.toNat bD).2.1 == 2 then
 (ob (F.Rk N (b.2.1.getD r_1.toNat az).2.2.2.2 w.2.2.1) (Int.ofNat 0) fun r_8 =>
 bif decide (r_8 > 8) then
 (some 5)
 else
 (next (i64.wrap (i5 + 1))))
 else
 (next (i64.wrap (i5 + 1)))) else none) else none)) else none) else none)) else none) else none) else none) else none) else none) else none)
 else
 (some 0))
 else
 (some 0)
def O3 (N : Nat) (b : Book) (w : Want) : Nat → Int → Option Int := lp (fun _ => none) fun next => yZ N b w next
def ael (N : Nat) (I0 : Book → Want → Nat → Int → Option Int) (b : Book) (w : Want) : Option Int :=
 ob (F.Us N b w.2.2.1 w.2.2.1) false fun r =>
 bif r then
 (some 8)
 else
 (I0 b w N 0)
def aiU (N : Nat) (b : Book) (w : Want) : Option Int := ael N (O3 N) b w
def E_ (N : Nat) (b : Book) (w : Want) (next : Int → Option Int) : Int → Option Int := fun i5 =>
 bif decide (i5 < (↑(w.2.2.2.1.length) : Int)) then
 (bif decide (0 ≤ i5) then
 (bif decide (i5 < (↑(w.2.2.2.1.length) : Int)) then
 (ob (F.D8 N b (w.2.2.2.1.getD i5.toNat bD).1) (Int.ofNat 0) fun r =>
 bif decide (0 ≤ r) then
 (bif decide (r < (↑(b.2.1.length) : Int)) then
 (bif decide (0 ≤ i5) then
 (bif decide (i5 < (↑(w.2.2.2.1.length) : Int)) then
 (bif (w.2.2.2.1.getD i5.toNat bD).2.1 == 1 then
 (bif decide ((b.2.1.getD r.toNat az).2.2.1 < (w.2.2.2.1.getD i5.toNat bD).2.2) then
 (some 9)
 else
 (bif (w.2.2.2.1.getD i5.toNat bD).2.1 == 2 then
 (bif decide (i64.wrap ((b.2.1.getD r.toNat az).2.2.2.1 + (w.2.2.2.1.getD i5.toNat bD).2.2) > (b.2.1.getD r.toNat az).2.1) then
 (some 10)
 else
 (bif w.2.1 == 2 then
 (bif decide ((b.2.1.getD r.toNat az).2.2.2.1 > 0) then
 (some 11)
 else
 (next (i64.wrap (i5 + 1))))
 else
 (next (i64.wrap (i5 + 1)))))
 else
 (bif w.2.1 == 2 then
 (bif decide ((b.2.1.getD r.toNat az).2.2.2.1 > 0) then
 (some 11)
 else
 (next (i64.wrap (i5 + 1))))
 else
 (next (i64.wrap (i5 + 1))))))
 else
 (bif (w.2.2.2.1.getD i5.toNat bD).2.1 == 2 then
 (bif decide (i64.wrap ((b.2.1.getD r.toNat az).2.2.2.1 + (w.2.2.2.1.getD i5.toNat bD).2.2) > (b.2.1.getD r.toNat az).2.1) then
 (some 10)
 else
 (bif w.2.1 == 2 then
 (bif decide ((b.2.1.getD r.toNat az).2.2.2.1 > 0) then
 (some 11)
 else
 (next (i64.wrap (i5 + 1))))
 else
 (next (i64.wrap (i5 + 1)))))
 else
 (bif w.2.1 == 2 then
 (bif decide ((b.2.1.getD r.toNat az).2.2.2.1 > 0) then
 (some 11)
 else
 (next (i64.wrap (i5 + 1))))
 else
 (next (i64.wrap (i5 + 1)))))) else none) else none) else none) else none) else none) else none)
 else
 (some 0)
def VX (N : Nat) (b : Book) (w : Want) : Nat → Int → Option Int := lp (fun _ => none) fun next => E_ N b w next
def afq (N : Nat) (I0 : Book → Want → Nat → Int → Option Int) (b : Book) (w : Want) : Option Int :=
 I0 b w N 0
def aeZ (N : Nat) (b : Book) (w : Want) : Option Int := afq N (VX N) b w
def Fe (N : Nat) (b : Book) (w : Want) (next : Int → Option Int) : Int → Option Int := fun i7 =>
 bif decide (i7 < (↑(b.2.2.2.1.length) : Int)) then
 (bif decide (0 ≤ i7) then
 (bif decide (i7 < (↑(b.2.2.2.1.length) : Int)) then
 (ob (F.U0 N w (b.2.2.2.1.getD i7.toNat bC).1) false fun r_8 =>
 bif r_8 then
 (some 7)
 else
 (next (i64.wrap (i7 + 1)))) else none) else none)
 else
 (ob (F.aiU N b w) (Int.ofNat 0) fun r_9 =>
 bif r_9 != 0 then
 (some r_9)
 else
 (ob (F.aeZ N b w) (Int.ofNat 0) fun r_10 =>
 some r_10))
def FU (N : Nat) (b : Book) (w : Want) : Nat → Int → Option Int := lp (fun _ => none) fun next => Fe N b w next
def EF (N : Nat) (I0 : Book → Want → Nat → Int → Option Int) (b : Book) (w : Want) (next : Int → Option Int) : Int → Option Int := fun i6 =>
 bif decide (i6 < (↑(b.2.2.2.1.length) : Int)) then
 (ob (F.OI N w) [] fun r_5 =>
 bif decide (0 ≤ i6) then
 (bif decide (i6 < (↑(b.2.2.2.1.length) : Int)) then
 (ob (F.OI N (b.2.2.2.1.getD i6.toNat bC).1) [] fun r_6 =>
 ob (F.GY N r_5 r_6) false fun r_7 =>
 bif r_7 then
 (some 6)
 else
 (next (i64.wrap (i6 + 1)))) else none) else none)
 else
 (I0 b w N 0)
def Vm (N : Nat) (b : Book) (w : Want) : Nat → Int → Option Int := lp (fun _ => none) fun next => EF N (FU N) b w next
def aiF (N : Nat) (I1 : Book → Want → Nat → Int → Option Int) (b : Book) (w : Want) : Option Int :=
 ob (F.Jj N b) false fun r =>
 bif !r then
 (some 1)
 else
 (ob (F.abH N w) false fun r_1 =>
 bif !r_1 then
 (some 2)
 else
 (ob (F.aco N b w) false fun r_2 =>
 bif !r_2 then
 (some 2)
 else
 (ob (F.QM N b w.1) (Int.ofNat 0) fun r_3 =>
 bif decide (r_3 ≥ 0) then
 (bif decide (0 ≤ r_3) then
 (bif decide (r_3 < (↑(b.2.2.2.1.length) : Int)) then
 (ob (F.abm N (b.2.2.2.1.getD r_3.toNat bC).1 w) false fun r_4 =>
 bif r_4 then
 (some 0)
 else
 (some 3)) else none) else none)
 else
 (bif decide (w.1 ≤ b.2.2.2.2) then
 (some 4)
 else
 (bif decide ((↑(b.2.2.2.1.length) : Int) ≥ 6) then
 (some 5)
 else
 (I1 b w N 0))))))
def akk (N : Nat) (b : Book) (w : Want) : Option Int := aiF N (Vm N) b w
def y5 (N : Nat) (list : List Txt) (name : Txt) (next : Int → Option (List Txt)) : Int → Option (List Txt) := fun k5 =>
 bif decide (k5 < (↑list.length : Int)) then
 (bif decide (0 ≤ k5) then
 (bif decide (k5 < (↑list.length : Int)) then
 (bif Op.bytesLess (list.getD k5.toNat []) name then
 (next (i64.wrap (k5 + 1)))
 else
 (bif decide (k5 < (↑list.length : Int)) then
 (bif decide (0 ≤ k5) then
 (bif decide (k5 < (↑list.length : Int)) then
 (bif list.getD k5.toNat [] == name then
 (some list)
 else
 (bif decide (0 ≤ k5) then
 (bif decide (k5 ≤ (↑(list.length) : Int)) then
 (bif decide ((0 + (List.drop (Int.toNat 0) (List.take k5.toNat list)).length) * 16 ≤ lim) then
 (bif decide ((([] ++ List.drop (Int.toNat 0) (List.take k5.toNat list)).length + [name].length) * 16 ≤ lim) then
 (bif decide (0 ≤ k5) then
 (bif decide (k5 ≤ (↑(list.length) : Int)) then
 (bif decide ((↑(list.length) : Int) ≤ (↑(list.length) : Int)) then
 (bif decide ((([] ++ List.drop (Int.toNat 0) (List.take k5.toNat list) ++ [name]).length + (List.drop k5.toNat (List.take (↑list.length : Int).toNat list)).length) * 16 ≤ lim) then
 (some ([] ++ List.drop (Int.toNat 0) (List.take k5.toNat list) ++ [name] ++ List.drop k5.toNat (List.take (↑list.length : Int).toNat list))) else none) else none) else none) else none) else none) else none) else none) else none)) else none) else none)
 else
 (bif decide (0 ≤ k5) then
 (bif decide (k5 ≤ (↑(list.length) : Int)) then
 (bif decide ((0 + (List.drop (Int.toNat 0) (List.take k5.toNat list)).length) * 16 ≤ lim) then
 (bif decide ((([] ++ List.drop (Int.toNat 0) (List.take k5.toNat list)).length + [name].length) * 16 ≤ lim) then
 (bif decide (0 ≤ k5) then
 (bif decide (k5 ≤ (↑(list.length) : Int)) then
 (bif decide ((↑(list.length) : Int) ≤ (↑(list.length) : Int)) then
 (bif decide ((([] ++ List.drop (Int.toNat 0) (List.take k5.toNat list) ++ [name]).length + (List.drop k5.toNat (List.take (↑list.length : Int).toNat list)).length) * 16 ≤ lim) then
 (some ([] ++ List.drop (Int.toNat 0) (List.take k5.toNat list) ++ [name] ++ List.drop k5.toNat (List.take (↑list.length : Int).toNat list))) else none) else none) else none) else none) else none) else none) else none) else none))) else none) else none)
 else
 (bif decide (k5 < (↑list.length : Int)) then
 (bif decide (0 ≤ k5) then
 (bif decide (k5 < (↑list.length : Int)) then
 (bif list.getD k5.toNat [] == name then
 (some list)
 else
 (bif decide (0 ≤ k5) then
 (bif decide (k5 ≤ (↑(list.length) : Int)) then
 (bif decide ((0 + (List.drop (Int.toNat 0) (List.take k5.toNat list)).length) * 16 ≤ lim) then
 (bif decide ((([] ++ List.drop (Int.toNat 0) (List.take k5.toNat list)).length + [name].length) * 16 ≤ lim) then
 (bif decide (0 ≤ k5) then
 (bif decide (k5 ≤ (↑(list.length) : Int)) then
 (bif decide ((↑(list.length) : Int) ≤ (↑(list.length) : Int)) then
 (bif decide ((([] ++ List.drop (Int.toNat 0) (List.take k5.toNat list) ++ [name]).length + (List.drop k5.toNat (List.take (↑list.length : Int).toNat list)).length) * 16 ≤ lim) then
 (some ([] ++ List.drop (Int.toNat 0) (List.take k5.toNat list) ++ [name] ++ List.drop k5.toNat (List.take (↑list.length : Int).toNat list))) else none) else none) else none) else none) else none) else none) else none) else none)) else none) else none)
 else
 (bif decide (0 ≤ k5) then
 (bif decide (k5 ≤ (↑(list.length) : Int)) then
 (bif decide ((0 + (List.drop (Int.toNat 0) (List.take k5.toNat list)).length) * 16 ≤ lim) then
 (bif decide ((([] ++ List.drop (Int.toNat 0) (List.take k5.toNat list)).length + [name].length) * 16 ≤ lim) then
 (bif decide (0 ≤ k5) then
 (bif decide (k5 ≤ (↑(list.length) : Int)) then
 (bif decide ((↑(list.length) : Int) ≤ (↑(list.length) : Int)) then
 (bif decide ((([] ++ List.drop (Int.toNat 0) (List.take k5.toNat list) ++ [name]).length + (List.drop k5.toNat (List.take (↑list.length : Int).toNat list)).length) * 16 ≤ lim) then
 (some ([] ++ List.drop (Int.toNat 0) (List.take k5.toNat list) ++ [name] ++ List.drop k5.toNat (List.take (↑list.length : Int).toNat list))) else none) else none) else none) else none) else none) else none) else none) else none))
def VU (N : Nat) (list : List Txt) (name : Txt) : Nat → Int → Option (List Txt) := lp (fun _ => none) fun next => y5 N list name next
def af_ (N : Nat) (I0 : (List Txt) → Txt → Nat → Int → Option (List Txt)) (list : List Txt) (name : Txt) : Option (List Txt) :=
 I0 list name N 0
def akH (N : Nat) (list : List Txt) (name : Txt) : Option (List Txt) := af_ N (VU N) list name
def nS (N : Nat) (nx0 : Int → (List aP) → Option Book) (b0 : List Foe) (b2 : List Txt) (b3 : List Part) (b4 : Int) (w : Want) (t4c4 : Int) (i5 : Int) (r_4 : Int) (u6c0_1 : Txt) (u6c1_1 : Int) (u6c2_1 : Int) (next : Int → (List aP) → Option Book) : Int → (List aP) → Option Book := fun n8_1 b2c1a_2 =>
 bif decide (n8_1 < (↑(w.2.2.1.length) : Int)) then
 (bif u6c1_1 != 1 then
 (bif decide (0 ≤ r_4) then
 (bif decide (r_4 < (↑b2c1a_2.length : Int)) then
 (bif decide (0 ≤ n8_1) then
 (bif decide (n8_1 < (↑(w.2.2.1.length) : Int)) then
 (ob (F.akH N (b2c1a_2.getD r_4.toNat az).2.2.2.2 (w.2.2.1.getD n8_1.toNat [])) [] fun r_5 =>
 bif decide (0 ≤ r_4) then
 (bif decide (r_4 < (↑b2c1a_2.length : Int)) then
 (let b2c1as_7 : List aP := b2c1a_2.set r_4.toNat ((b2c1a_2.getD r_4.toNat az).1, (b2c1a_2.getD r_4.toNat az).2.1, (b2c1a_2.getD r_4.toNat az).2.2.1, (b2c1a_2.getD r_4.toNat az).2.2.2.1, r_5)
 next (i64.wrap (n8_1 + 1)) b2c1as_7) else none) else none) else none) else none) else none) else none)
 else
 (nx0 (i64.wrap (i5 + 1)) b2c1a_2))
 else
 (nx0 (i64.wrap (i5 + 1)) b2c1a_2)
def mD (N : Nat) (nx0 : Int → (List aP) → Option Book) (b0 : List Foe) (b2 : List Txt) (b3 : List Part) (b4 : Int) (w : Want) (t4c4 : Int) (i5 : Int) (r_4 : Int) (u6c0_1 : Txt) (u6c1_1 : Int) (u6c2_1 : Int) : Nat → Int → (List aP) → Option Book := lp (fun _ _ => none) fun next => nS N nx0 b0 b2 b3 b4 w t4c4 i5 r_4 u6c0_1 u6c1_1 u6c2_1 next
def sQ (N : Nat) (I0 : Int → Int → Txt → Int → Int → Nat → Int → (List aP) → Option Book) (b0 : List Foe) (b2 : List Txt) (b3 : List Part) (b4 : Int) (w : Want) (t4c4 : Int) (next : Int → (List aP) → Option Book) : Int → (List aP) → Option Book := fun i5 b2c1a =>
 bif decide (i5 < (↑(w.2.2.2.1.length) : Int)) then
 (bif decide (0 ≤ i5) then
 (bif decide (i5 < (↑(w.2.2.2.1.length) : Int)) then
 (ob (F.D8 N (b0, b2c1a, b2, b3, b4) (w.2.2.2.1.getD i5.toNat bD).1) (Int.ofNat 0) fun r_4 =>
 bif (w.2.2.2.1.getD i5.toNat bD).2.1 == 1 then
 (bif decide (0 ≤ r_4) then
 (bif decide (r_4 < (↑b2c1a.length : Int)) then
 (bif decide (0 ≤ r_4) then
 (bif decide (r_4 < (↑b2c1a.length : Int)) then
 (let b2c1as_5 : List aP := b2c1a.set r_4.toNat ((b2c1a.getD r_4.toNat az).1, (b2c1a.getD r_4.toNat az).2.1, i64.wrap ((b2c1a.getD r_4.toNat az).2.2.1 - (w.2.2.2.1.getD i5.toNat bD).2.2), (b2c1a.getD r_4.toNat az).2.2.2)
 bif (w.2.2.2.1.getD i5.toNat bD).2.1 == 2 then
 (bif decide (0 ≤ r_4) then
 (bif decide (r_4 < (↑b2c1as_5.length : Int)) then
 (bif decide (0 ≤ r_4) then
 (bif decide (r_4 < (↑b2c1as_5.length : Int)) then
 (let b2c1as_6 : List aP := b2c1as_5.set r_4.toNat ((b2c1as_5.getD r_4.toNat az).1, (b2c1as_5.getD r_4.toNat az).2.1, (b2c1as_5.getD r_4.toNat az).2.2.1, i64.wrap ((b2c1as_5.getD r_4.toNat az).2.2.2.1 + (w.2.2.2.1.getD i5.toNat bD).2.2), (b2c1as_5.getD r_4.toNat az).2.2.2.2)
 I0 i5 r_4 ((w.2.2.2.1.getD i5.toNat bD).1) ((w.2.2.2.1.getD i5.toNat bD).2.1) ((w.2.2.2.1.getD i5.toNat bD).2.2) N 0 b2c1as_6) else none) else none) else none) else none)
 else
 (I0 i5 r_4 ((w.2.2.2.1.getD i5.toNat bD).1) ((w.2.2.2.1.getD i5.toNat bD).2.1) ((w.2.2.2.1.getD i5.toNat bD).2.2) N 0 b2c1as_5)) else none) else none) else none) else none)
 else
 (bif (w.2.2.2.1.getD i5.toNat bD).2.1 == 2 then
 (bif decide (0 ≤ r_4) then
 (bif decide (r_4 < (↑b2c1a.length : Int)) then
 (bif decide (0 ≤ r_4) then
 (bif decide (r_4 < (↑b2c1a.length : Int)) then
 (let b2c1as_8 : List aP := b2c1a.set r_4.toNat ((b2c1a.getD r_4.toNat az).1, (b2c1a.getD r_4.toNat az).2.1, (b2c1a.getD r_4.toNat az).2.2.1, i64.wrap ((b2c1a.getD r_4.toNat az).2.2.2.1 + (w.2.2.2.1.getD i5.toNat bD).2.2), (b2c1a.getD r_4.toNat az).2.2.2.2)
 I0 i5 r_4 ((w.2.2.2.1.getD i5.toNat bD).1) ((w.2.2.2.1.getD i5.toNat bD).2.1) ((w.2.2.2.1.getD i5.toNat bD).2.2) N 0 b2c1as_8) else none) else none) else none) else none)
 else
 (I0 i5 r_4 ((w.2.2.2.1.getD i5.toNat bD).1) ((w.2.2.2.1.getD i5.toNat bD).2.1) ((w.2.2.2.1.getD i5.toNat bD).2.2) N 0 b2c1a))) else none) else none)
 else
 (ob (F.acE N w) zi fun r_6 =>
 bif decide ((b3.length + [(r_6, false)].length) * 120 ≤ lim) then
 (some (b0, b2c1a, b2, b3 ++ [(r_6, false)], b4)) else none)
def NM (N : Nat) (b0 : List Foe) (b2 : List Txt) (b3 : List Part) (b4 : Int) (w : Want) (t4c4 : Int) : Nat → Int → (List aP) → Option Book := lp (fun _ _ => none) fun next => sQ N (mD N next b0 b2 b3 b4 w t4c4) b0 b2 b3 b4 w t4c4 next
def U1 (N : Nat) (I1 : (List Foe) → (List Txt) → (List Part) → Int → Want → Int → Nat → Int → (List aP) → Option Book) (b0 : List Foe) (b1 : List aP) (b2 : List Txt) (b3 : List Part) (b4 : Int) (w : Want) : Option Book :=
 I1 b0 b2 b3 b4 w 0 N 0 b1
def Ru (N : Nat) (b0 : List Foe) (b1 : List aP) (b2 : List Txt) (b3 : List Part) (b4 : Int) (w : Want) : Option Book := U1 N (NM N) b0 b1 b2 b3 b4 w
def U7 (N : Nat) (b : Book) (w : Want) : Option (Book × Int) :=
 ob (F.akk N b w) (Int.ofNat 0) fun r =>
 bif r == 1 then
 (some (([], [], [], [], 0), 1))
 else
 (ob (F.yD N b) dB fun r_1 =>
 ob (F.iD N r 2 4) false fun r_2 =>
 bif r_2 then
 (some (r_1, r))
 else
 (ob (F.QM N b w.1) (Int.ofNat 0) fun r_3 =>
 bif decide (r_3 ≥ 0) then
 (some (r_1, r))
 else
 (bif r == 0 then
 (ob (F.Ru N r_1.1 r_1.2.1 r_1.2.2.1 r_1.2.2.2.1 w.1 w) dB fun r_4 =>
 ob (F.yD N r_4) dB fun r_5 =>
 some (r_5, r))
 else
 (ob (F.yD N (r_1.1, r_1.2.1, r_1.2.2.1, r_1.2.2.2.1, w.1)) dB fun r_6 =>
 some (r_6, r)))))
def ni (N : Nat) : Nat → Int → Option Txt
 | 0, n => bif decide (n < 0) then
 none
 else
 (bif decide (n < 10) then
 (some (List.map byteOf [IntKind.u8.wrap (i64.wrap (48 + n))]))
 else
 none)
 | m + 1, n => bif decide (n < 0) then
 (ob (ni N m (i64.wrap (0 - n))) [] fun r =>
 bif decide (1 + List.length r ≤ lim) then
 (some ([45] ++ r)) else none)
 else
 (bif decide (n < 10) then
 (some (List.map byteOf [IntKind.u8.wrap (i64.wrap (48 + n))]))
 else
 (ob (ni N m (i64.wrap (n.tdiv 10))) [] fun r_1 =>
 bif decide (List.length r_1 + (List.map byteOf [IntKind.u8.wrap (i64.wrap (48 + n.tmod 10))]).length ≤ lim) then
 (some (r_1 ++ List.map byteOf [IntKind.u8.wrap (i64.wrap (48 + n.tmod 10))])) else none))
def uX (N : Nat) (n : Int) : Option Txt := ni N 64 n
def BD (N : Nat) (b : Book) (code : Int) : Option (Book × Txt) :=
 ob (F.uX N code) [] fun r =>
 bif decide ([99, 111, 100, 101, 32].length + List.length r ≤ lim) then
 (some (b, [99, 111, 100, 101, 32] ++ r)) else none
def acV (N : Nat) (b : Book) (number : Int) : Option (Book × Int) :=
 ob (F.Jj N b) false fun r =>
 bif !r then
 (some (([], [], [], [], 0), 1))
 else
 (ob (F.yD N b) dB fun r_1 =>
 ob (F.QM N b number) (Int.ofNat 0) fun r_2 =>
 bif decide (r_2 < 0) then
 (some (r_1, 3))
 else
 (bif decide (0 ≤ r_2) then
 (bif decide (r_2 < (↑(r_1.2.2.2.1.length) : Int)) then
 (let t1835as : List Part := List.set r_1.2.2.2.1 r_2.toNat ((r_1.2.2.2.1.getD r_2.toNat bC).1, true)
 some ((r_1.1, r_1.2.1, r_1.2.2.1, t1835as, r_1.2.2.2.2), 0)) else none) else none))
def Ff (N : Nat) (w : Want) (moved : Int) (next : Int → Option Bool) : Int → Option Bool := fun i5 =>
 bif decide (i5 < (↑(w.2.2.2.1.length) : Int)) then
 (bif decide (0 ≤ i5) then
 (bif decide (i5 < (↑(w.2.2.2.1.length) : Int)) then
 (bif (w.2.2.2.1.getD i5.toNat bD).2.1 != 3 then
 (bif decide (0 ≤ i5) then
 (bif decide (i5 < (↑(w.2.2.2.1.length) : Int)) then
 (bif decide (moved > (w.2.2.2.1.getD i5.toNat bD).2.2) then
 (some false)
 else
 (next (i64.wrap (i5 + 1)))) else none) else none)
 else
 (next (i64.wrap (i5 + 1)))) else none) else none)
 else
 (some true)
def UM (N : Nat) (w : Want) (moved : Int) : Nat → Int → Option Bool := lp (fun _ => none) fun next => Ff N w moved next
def aem (N : Nat) (I0 : Want → Int → Nat → Int → Option Bool) (w : Want) (moved : Int) : Option Bool :=
 bif decide (moved < 0) then
 (some false)
 else
 (I0 w moved N 0)
def aeu (N : Nat) (w : Want) (moved : Int) : Option Bool := aem N (UM N) w moved
def afD (N : Nat) (s : aP) (w : Want) (u : Use) (moved : Int) (done : Bool) : Option aP :=
 bif u.2.1 == 1 then
 (bif u.2.1 == 2 then
 (bif w.2.1 == 2 then
 (bif done then
 (some (s.1, s.2.1, i64.wrap (i64.wrap (i64.wrap (s.2.2.1 + u.2.2) - moved) + moved), i64.wrap (i64.wrap (i64.wrap (s.2.2.2.1 - moved) - u.2.2) + moved), []))
 else
 (some (s.1, s.2.1, i64.wrap (i64.wrap (i64.wrap (s.2.2.1 + u.2.2) - moved) + moved), i64.wrap (i64.wrap (i64.wrap (s.2.2.2.1 - moved) - u.2.2) + moved), s.2.2.2.2)))
 else
 (some (s.1, s.2.1, i64.wrap (i64.wrap (i64.wrap (s.2.2.1 + u.2.2) - moved) + moved), i64.wrap (i64.wrap (i64.wrap (s.2.2.2.1 - moved) - u.2.2) + moved), s.2.2.2.2)))
 else
 (bif w.2.1 == 2 then
 (bif done then
 (some (s.1, s.2.1, i64.wrap (i64.wrap (s.2.2.1 + u.2.2) - moved), i64.wrap (s.2.2.2.1 - moved), []))
 else
 (some (s.1, s.2.1, i64.wrap (i64.wrap (s.2.2.1 + u.2.2) - moved), i64.wrap (s.2.2.2.1 - moved), s.2.2.2.2)))
 else
 (some (s.1, s.2.1, i64.wrap (i64.wrap (s.2.2.1 + u.2.2) - moved), i64.wrap (s.2.2.2.1 - moved), s.2.2.2.2))))
 else
 (bif u.2.1 == 2 then
 (bif w.2.1 == 2 then
 (bif done then
 (some (s.1, s.2.1, i64.wrap (s.2.2.1 + moved), i64.wrap (i64.wrap (s.2.2.2.1 - u.2.2) + moved), []))
 else
 (some (s.1, s.2.1, i64.wrap (s.2.2.1 + moved), i64.wrap (i64.wrap (s.2.2.2.1 - u.2.2) + moved), s.2.2.2.2)))
 else
 (some (s.1, s.2.1, i64.wrap (s.2.2.1 + moved), i64.wrap (i64.wrap (s.2.2.2.1 - u.2.2) + moved), s.2.2.2.2)))
 else
 (bif w.2.1 == 2 then
 (bif done then
 (some (s.1, s.2.1, s.2.2.1, s.2.2.2.1, []))
 else
 (some s))
 else
 (some s)))
def zn (N : Nat) (b : Book) (moved : Int) (done : Bool) (r_1 : Book) (r_2 : Int) (t8c4 : Int) (w12c0 : Int) (w12c1 : Int) (w12c2 : List Txt) (w12c3 : List Use) (w12c4 : List Txt) (w12c5 : List Txt) (next : Int → (List aP) → Option (Book × Int)) : Int → (List aP) → Option (Book × Int) := fun i13 x10c1a =>
 bif decide (i13 < (↑(w12c3.length) : Int)) then
 (bif decide (0 ≤ i13) then
 (bif decide (i13 < (↑(w12c3.length) : Int)) then
 (ob (F.D8 N b (w12c3.getD i13.toNat bD).1) (Int.ofNat 0) fun r_7 =>
 bif decide (0 ≤ r_7) then
 (bif decide (r_7 < (↑x10c1a.length : Int)) then
 (bif decide (0 ≤ i13) then
 (bif decide (i13 < (↑(w12c3.length) : Int)) then
 (ob (F.afD N (x10c1a.getD r_7.toNat az) (w12c0, w12c1, w12c2, w12c3, w12c4, w12c5) (w12c3.getD i13.toNat bD) moved done) az fun r_8 =>
 bif decide (0 ≤ r_7) then
 (bif decide (r_7 < (↑x10c1a.length : Int)) then
 (let x10c1as_1 : List aP := x10c1a.set r_7.toNat r_8
 next (i64.wrap (i13 + 1)) x10c1as_1) else none) else none) else none) else none) else none) else none) else none) else none)
 else
 (bif decide (0 ≤ r_2) then
 (bif decide (r_2 ≤ (↑(r_1.2.2.2.1.length) : Int)) then
 (bif decide ((0 + (List.drop (Int.toNat 0) (List.take r_2.toNat r_1.2.2.2.1)).length) * 120 ≤ lim) then
 (bif decide (0 ≤ i64.wrap (r_2 + 1)) then
 (bif decide (i64.wrap (r_2 + 1) ≤ (↑(r_1.2.2.2.1.length) : Int)) then
 (bif decide ((↑(r_1.2.2.2.1.length) : Int) ≤ (↑(r_1.2.2.2.1.length) : Int)) then
 (bif decide ((([] ++ List.drop (Int.toNat 0) (List.take r_2.toNat r_1.2.2.2.1)).length + (List.drop (i64.wrap (r_2 + 1)).toNat (List.take (↑(r_1.2.2.2.1.length) : Int).toNat r_1.2.2.2.1)).length) * 120 ≤ lim) then
 (ob (F.yD N (r_1.1, x10c1a, r_1.2.2.1, [] ++ List.drop (Int.toNat 0) (List.take r_2.toNat r_1.2.2.2.1) ++ List.drop (i64.wrap (r_2 + 1)).toNat (List.take (↑(r_1.2.2.2.1.length) : Int).toNat r_1.2.2.2.1), r_1.2.2.2.2)) dB fun r_9 =>
 some (r_9, 0)) else none) else none) else none) else none) else none) else none) else none)
def Wu (N : Nat) (b : Book) (moved : Int) (done : Bool) (r_1 : Book) (r_2 : Int) (t8c4 : Int) (w12c0 : Int) (w12c1 : Int) (w12c2 : List Txt) (w12c3 : List Use) (w12c4 : List Txt) (w12c5 : List Txt) : Nat → Int → (List aP) → Option (Book × Int) := lp (fun _ _ => none) fun next => zn N b moved done r_1 r_2 t8c4 w12c0 w12c1 w12c2 w12c3 w12c4 w12c5 next
def aeL (N : Nat) (I0 : Book → Int → Bool → Book → Int → Int → Int → Int → (List Txt) → (List Use) → (List Txt) → (List Txt) → Nat → Int → (List aP) → Option (Book × Int)) (b : Book) (number : Int) (moved : Int) (done : Bool) : Option (Book × Int) :=
 ob (F.Jj N b) false fun r =>
 bif !r then
 (some (([], [], [], [], 0), 1))
 else
 (ob (F.yD N b) dB fun r_1 =>
 ob (F.QM N b number) (Int.ofNat 0) fun r_2 =>
 bif decide (r_2 < 0) then
 (some (r_1, 3))
 else
 (bif decide (0 ≤ r_2) then
 (bif decide (r_2 < (↑(b.2.2.2.1.length) : Int)) then
 (ob (F.aeu N (b.2.2.2.1.getD r_2.toNat bC).1 moved) false fun r_3 =>
 bif !r_3 then
 (some (r_1, 2))
 else
 (bif decide (0 ≤ r_2) then
 (bif decide (r_2 < (↑(b.2.2.2.1.length) : Int)) then
 (bif !(b.2.2.2.1.getD r_2.toNat bC).2 then
 (some (r_1, 12))
 else
 (I0 b moved done r_1 r_2 0 ((b.2.2.2.1.getD r_2.toNat bC).1.1) ((b.2.2.2.1.getD r_2.toNat bC).1.2.1) ((b.2.2.2.1.getD r_2.toNat bC).1.2.2.1) ((b.2.2.2.1.getD r_2.toNat bC).1.2.2.2.1) ((b.2.2.2.1.getD r_2.toNat bC).1.2.2.2.2.1) ((b.2.2.2.1.getD r_2.toNat bC).1.2.2.2.2.2) N 0 r_1.2.1)) else none) else none)) else none) else none))
def aax (N : Nat) (b : Book) (number : Int) (moved : Int) (done : Bool) : Option (Book × Int) := aeL N (Wu N) b number moved done
def uK (N : Nat) (list : List Txt) (by0 : Txt) (next : Txt → Int → Option Txt) : Txt → Int → Option Txt := fun out5 i6 =>
 bif decide (i6 < (↑list.length : Int)) then
 (bif decide (i6 > 0) then
 (bif decide (List.length out5 + by0.length ≤ lim) then
 (bif decide (0 ≤ i6) then
 (bif decide (i6 < (↑list.length : Int)) then
 (bif decide (List.length (out5 ++ by0) + List.length (list.getD i6.toNat []) ≤ lim) then
 (next (out5 ++ by0 ++ list.getD i6.toNat []) (i64.wrap (i6 + 1))) else none) else none) else none) else none)
 else
 (bif decide (0 ≤ i6) then
 (bif decide (i6 < (↑list.length : Int)) then
 (bif decide (List.length out5 + List.length (list.getD i6.toNat []) ≤ lim) then
 (next (out5 ++ list.getD i6.toNat []) (i64.wrap (i6 + 1))) else none) else none) else none))
 else
 (bif out5 == [] then
 (some [45])
 else
 (some out5))
def Au (N : Nat) (list : List Txt) (by0 : Txt) : Nat → Txt → Int → Option Txt := lp (fun _ _ => none) fun next => uK N list by0 next
def apC (N : Nat) (I0 : (List Txt) → Txt → Nat → Txt → Int → Option Txt) (list : List Txt) (by0 : Txt) : Option Txt :=
 I0 list by0 N [] 0
def UN (N : Nat) (list : List Txt) (by0 : Txt) : Option Txt := apC N (Au N) list by0
def ahA (N : Nat) (b : Book) (name : Txt) : Option Txt :=
 ob (F.D8 N b name) (Int.ofNat 0) fun r =>
 bif decide (r < 0) then
 (some [110, 111, 110, 101])
 else
 (bif decide (0 ≤ r) then
 (bif decide (r < (↑(b.2.1.length) : Int)) then
 (ob (F.uX N (b.2.1.getD r.toNat az).2.2.1) [] fun r_1 =>
 bif decide (List.length r_1 + 1 ≤ lim) then
 (ob (F.uX N (b.2.1.getD r.toNat az).2.2.2.1) [] fun r_2 =>
 bif decide (List.length (r_1 ++ [45]) + List.length r_2 ≤ lim) then
 (bif decide (List.length (r_1 ++ [45] ++ r_2) + [32, 111, 102, 32].length ≤ lim) then
 (ob (F.uX N (b.2.1.getD r.toNat az).2.1) [] fun r_3 =>
 bif decide (List.length (r_1 ++ [45] ++ r_2 ++ [32, 111, 102, 32]) + List.length r_3 ≤ lim) then
 (bif decide (List.length (r_1 ++ [45] ++ r_2 ++ [32, 111, 102, 32] ++ r_3) + 1 ≤ lim) then
 (ob (F.UN N (b.2.1.getD r.toNat az).2.2.2.2 [44]) [] fun r_4 =>
 bif decide (List.length (r_1 ++ [45] ++ r_2 ++ [32, 111, 102, 32] ++ r_3 ++ [32]) + List.length r_4 ≤ lim) then
 (some (r_1 ++ [45] ++ r_2 ++ [32, 111, 102, 32] ++ r_3 ++ [32] ++ r_4)) else none) else none) else none) else none) else none) else none) else none) else none)
def EL (N : Nat) (b : Book) (valve : Txt) (next : Int → Option Int) : Int → Option Int := fun i5 =>
 bif decide (i5 < (↑(b.2.2.2.1.length) : Int)) then
 (bif decide (0 ≤ i5) then
 (bif decide (i5 < (↑(b.2.2.2.1.length) : Int)) then
 (bif !(b.2.2.2.1.getD i5.toNat bC).2 then
 (bif decide (0 ≤ i5) then
 (bif decide (i5 < (↑(b.2.2.2.1.length) : Int)) then
 (ob (F.ug N (b.2.2.2.1.getD i5.toNat bC).1.2.2.2.2.1 valve) false fun r_1 =>
 bif r_1 then
 (bif decide (0 ≤ i5) then
 (bif decide (i5 < (↑(b.2.2.2.1.length) : Int)) then
 (some ((b.2.2.2.1.getD i5.toNat bC).1.1)) else none) else none)
 else
 (next (i64.wrap (i5 + 1)))) else none) else none)
 else
 (next (i64.wrap (i5 + 1)))) else none) else none)
 else
 (some 0)
def Ug (N : Nat) (b : Book) (valve : Txt) : Nat → Int → Option Int := lp (fun _ => none) fun next => EL N b valve next
def ahb (N : Nat) (I0 : Book → Txt → Nat → Int → Option Int) (b : Book) (valve : Txt) : Option Int :=
 ob (F.Jj N b) false fun r =>
 bif !r then
 (some 0)
 else
 (I0 b valve N 0)
def aaX (N : Nat) (b : Book) (valve : Txt) : Option Int := ahb N (Ug N) b valve
def Eo (N : Nat) (b : Book) (valve : Txt) (next : Int → (List Int) → Option (List Int)) : Int → (List Int) → Option (List Int) := fun i6 out5a =>
 bif decide (i6 < (↑(b.2.2.2.1.length) : Int)) then
 (bif decide (0 ≤ i6) then
 (bif decide (i6 < (↑(b.2.2.2.1.length) : Int)) then
 (ob (F.ug N (b.2.2.2.1.getD i6.toNat bC).1.2.2.2.2.2 valve) false fun r_1 =>
 bif r_1 then
 (bif decide (0 ≤ i6) then
 (bif decide (i6 < (↑(b.2.2.2.1.length) : Int)) then
 (bif decide ((out5a.length + [(b.2.2.2.1.getD i6.toNat bC).1.1].length) * 8 ≤ lim) then
 (next (i64.wrap (i6 + 1)) (out5a ++ [(b.2.2.2.1.getD i6.toNat bC).1.1])) else none) else none) else none)
 else
 (next (i64.wrap (i6 + 1)) out5a)) else none) else none)
 else
 (some out5a)
def VQ (N : Nat) (b : Book) (valve : Txt) : Nat → Int → (List Int) → Option (List Int) := lp (fun _ _ => none) fun next => Eo N b valve next
def aiM (N : Nat) (I0 : Book → Txt → Nat → Int → (List Int) → Option (List Int)) (b : Book) (valve : Txt) : Option (List Int) :=
 ob (F.Jj N b) false fun r =>
 bif !r then
 (some [])
 else
 (I0 b valve N 0 [])
def aaQ (N : Nat) (b : Book) (valve : Txt) : Option (List Int) := aiM N (VQ N) b valve
def FM (N : Nat) (list : List Int) (next : Int → (List Txt) → Option Txt) : Int → (List Txt) → Option Txt := fun i4 out3a =>
 bif decide (i4 < (↑list.length : Int)) then
 (bif decide (0 ≤ i4) then
 (bif decide (i4 < (↑list.length : Int)) then
 (ob (F.uX N (list.getD i4.toNat (Int.ofNat 0))) [] fun r =>
 bif decide ((out3a.length + 1) * 16 ≤ lim) then
 (next (i64.wrap (i4 + 1)) (out3a ++ [r])) else none) else none) else none)
 else
 (ob (F.UN N out3a [44]) [] fun r_1 =>
 some r_1)
def Wv (N : Nat) (list : List Int) : Nat → Int → (List Txt) → Option Txt := lp (fun _ _ => none) fun next => FM N list next
def ahZ (N : Nat) (I0 : (List Int) → Nat → Int → (List Txt) → Option Txt) (list : List Int) : Option Txt :=
 I0 list N 0 []
def ach (N : Nat) (list : List Int) : Option Txt := ahZ N (Wv N) list
def aaS (N : Nat) (b : Book) (ws : List Txt) : Option (Book × Txt) :=
 bif decide (0 < (↑ws.length : Int)) then
 (bif ws.getD (Int.toNat 0) [] == [102, 111, 101] && (↑ws.length : Int) == 3 then
 (ob (F.Rl N b ws) (dB, []) fun r =>
 some r)
 else
 (bif decide (0 < (↑ws.length : Int)) then
 (bif ws.getD (Int.toNat 0) [] == [115, 112, 111, 116] && (↑ws.length : Int) == 5 then
 (ob (F.aiK N b ws) (dB, []) fun r_1 =>
 some r_1)
 else
 (bif decide (0 < (↑ws.length : Int)) then
 (bif ws.getD (Int.toNat 0) [] == [118, 97, 108, 118, 101, 115] && (↑ws.length : Int) == 2 then
 (ob (F.yD N b) dB fun r_2 =>
 bif decide (1 < (↑ws.length : Int)) then
 (ob (F.I4 N (ws.getD (Int.toNat 1) [])) [] fun r_3 =>
 ob (F.NV N b (r_2.1, r_2.2.1, r_3, r_2.2.2.2)) (dB, []) fun r_4 =>
 some r_4) else none)
 else
 (bif decide (0 < (↑ws.length : Int)) then
 (bif ws.getD (Int.toNat 0) [] == [109, 111, 118, 101] && (↑ws.length : Int) == 6 then
 (bif decide (1 < (↑ws.length : Int)) then
 (bif decide (2 ≤ (↑(ws.length) : Int)) then
 (bif decide ((↑(ws.length) : Int) ≤ (↑(ws.length) : Int)) then
 (ob (F.Ik N 1 (ws.getD (Int.toNat 1) []) (List.drop (Int.toNat 2) (List.take (↑ws.length : Int).toNat ws))) zi fun r_5 =>
 ob (F.U7 N b r_5) (dB, Int.ofNat 0) fun r_6 =>
 ob (F.BD N r_6.1 r_6.2) (dB, []) fun r_7 =>
 some r_7) else none) else none) else none)
 else
 (bif decide (0 < (↑ws.length : Int)) then
 (bif ws.getD (Int.toNat 0) [] == [99, 108, 101, 97, 110] && (↑ws.length : Int) == 5 then
 (bif decide (1 ≤ (↑(ws.length) : Int)) then
 (bif decide ((↑(ws.length) : Int) ≤ (↑(ws.length) : Int)) then
 (ob (F.Ik N 2 [45] (List.drop (Int.toNat 1) (List.take (↑ws.length : Int).toNat ws))) zi fun r_8 =>
 ob (F.U7 N b r_8) (dB, Int.ofNat 0) fun r_9 =>
 ob (F.BD N r_9.1 r_9.2) (dB, []) fun r_10 =>
 some r_10) else none) else none)
 else
 (bif decide (0 < (↑ws.length : Int)) then
 (bif ws.getD (Int.toNat 0) [] == [112, 101, 114, 109, 105, 116] && (↑ws.length : Int) == 5 then
 (bif decide (1 ≤ (↑(ws.length) : Int)) then
 (bif decide ((↑(ws.length) : Int) ≤ (↑(ws.length) : Int)) then
 (ob (F.Ik N 3 [45] (List.drop (Int.toNat 1) (List.take (↑ws.length : Int).toNat ws))) zi fun r_11 =>
 ob (F.U7 N b r_11) (dB, Int.ofNat 0) fun r_12 =>
 ob (F.BD N r_12.1 r_12.2) (dB, []) fun r_13 =>
 some r_13) else none) else none)
 else
 (bif decide (0 < (↑ws.length : Int)) then
 (bif ws.getD (Int.toNat 0) [] == [115, 116, 111, 112] && (↑ws.length : Int) == 2 then
 (bif decide (1 < (↑ws.length : Int)) then
 (ob (F.t_ N (ws.getD (Int.toNat 1) [])) (Int.ofNat 0) fun r_14 =>
 ob (F.acV N b r_14) (dB, Int.ofNat 0) fun r_15 =>
 ob (F.BD N r_15.1 r_15.2) (dB, []) fun r_16 =>
 some r_16) else none)
 else
 (bif decide (0 < (↑ws.length : Int)) then
 (bif ws.getD (Int.toNat 0) [] == [111, 118, 101, 114] && (↑ws.length : Int) == 3 then
 (bif decide (1 < (↑ws.length : Int)) then
 (ob (F.t_ N (ws.getD (Int.toNat 1) [])) (Int.ofNat 0) fun r_17 =>
 bif decide (2 < (↑ws.length : Int)) then
 (ob (F.t_ N (ws.getD (Int.toNat 2) [])) (Int.ofNat 0) fun r_18 =>
 ob (F.aax N b r_17 r_18 false) (dB, Int.ofNat 0) fun r_19 =>
 ob (F.BD N r_19.1 r_19.2) (dB, []) fun r_20 =>
 some r_20) else none) else none)
 else
 (bif decide (0 < (↑ws.length : Int)) then
 (bif ws.getD (Int.toNat 0) [] == [99, 108, 101, 97, 110, 101, 100] && (↑ws.length : Int) == 2 then
 (bif decide (1 < (↑ws.length : Int)) then
 (ob (F.t_ N (ws.getD (Int.toNat 1) [])) (Int.ofNat 0) fun r_21 =>
 ob (F.aax N b r_21 0 true) (dB, Int.ofNat 0) fun r_22 =>
 ob (F.BD N r_22.1 r_22.2) (dB, []) fun r_23 =>
 some r_23) else none)
 else
 (bif decide (0 < (↑ws.length : Int)) then
 (bif ws.getD (Int.toNat 0) [] == [115, 104, 111, 119] && (↑ws.length : Int) == 2 then
 (bif decide (1 < (↑ws.length : Int)) then
 (ob (F.ahA N b (ws.getD (Int.toNat 1) [])) [] fun r_24 =>
 some (b, r_24)) else none)
 else
 (bif decide (0 < (↑ws.length : Int)) then
 (bif ws.getD (Int.toNat 0) [] == [118, 97, 108, 118, 101] && (↑ws.length : Int) == 2 then
 (bif decide (1 < (↑ws.length : Int)) then
 (ob (F.aaX N b (ws.getD (Int.toNat 1) [])) (Int.ofNat 0) fun r_25 =>
 ob (F.uX N r_25) [] fun r_26 =>
 bif decide (List.length r_26 + 1 ≤ lim) then
 (bif decide (1 < (↑ws.length : Int)) then
 (ob (F.aaQ N b (ws.getD (Int.toNat 1) [])) [] fun r_27 =>
 ob (F.ach N r_27) [] fun r_28 =>
 bif decide (List.length (r_26 ++ [32]) + List.length r_28 ≤ lim) then
 (some (b, r_26 ++ [32] ++ r_28)) else none) else none) else none) else none)
 else
 (some (b, [98, 97, 100]))) else none)) else none)) else none)) else none)) else none)) else none)) else none)) else none)) else none)) else none)) else none
def uw (N : Nat) (lines3 : List Txt) (next : Txt → Int → (List Foe) → (List aP) → (List Txt) → (List Part) → Int → Option Txt) : Txt → Int → (List Foe) → (List aP) → (List Txt) → (List Part) → Int → Option Txt := fun out5 i6 b4c0 b4c1 b4c2 b4c3 b4c4 =>
 bif decide (i6 < (↑(lines3.length) : Int)) then
 (bif decide (0 ≤ i6) then
 (bif decide (i6 < (↑(lines3.length) : Int)) then
 (ob (F.Dz N (lines3.getD i6.toNat []) 32) [] fun r_1 =>
 ob (F.aaS N (b4c0, b4c1, b4c2, b4c3, b4c4) r_1) (dB, []) fun r_2 =>
 bif decide (List.length out5 + List.length r_2.2 ≤ lim) then
 (bif decide (List.length (out5 ++ r_2.2) + [10].length ≤ lim) then
 (next (out5 ++ r_2.2 ++ [10]) (i64.wrap (i6 + 1)) r_2.1.1 r_2.1.2.1 r_2.1.2.2.1 r_2.1.2.2.2.1 r_2.1.2.2.2.2) else none) else none) else none) else none)
 else
 (some out5)
def wR (N : Nat) (lines3 : List Txt) : Nat → Txt → Int → (List Foe) → (List aP) → (List Txt) → (List Part) → Int → Option Txt := lp (fun _ _ _ _ _ _ _ => none) fun next => uw N lines3 next
def afx (N : Nat) (I0 : (List Txt) → Nat → Txt → Int → (List Foe) → (List aP) → (List Txt) → (List Part) → Int → Option Txt) (text : Txt) : Option Txt :=
 ob (F.Dz N text 10) [] fun r =>
 bif decide (0 ≤ i64.wrap ((↑(r.length) : Int) - 1)) then
 (bif decide (i64.wrap ((↑(r.length) : Int) - 1) < (↑(r.length) : Int)) then
 (bif r.getD (i64.wrap ((↑(r.length) : Int) - 1)).toNat [] == [] then
 (bif decide (0 ≤ i64.wrap ((↑(r.length) : Int) - 1)) then
 (bif decide (i64.wrap ((↑(r.length) : Int) - 1) ≤ (↑(r.length) : Int)) then
 (bif decide ((↑text.length : Int) > 10000) then
 (some [116, 111, 111, 32, 108, 111, 110, 103, 10])
 else
 (bif decide ((↑(List.drop (Int.toNat 0) (List.take (i64.wrap ((↑(r.length) : Int) - 1)).toNat r)).length : Int) > 200) then
 (some [116, 111, 111, 32, 108, 111, 110, 103, 10])
 else
 (I0 (List.drop (Int.toNat 0) (List.take (i64.wrap ((↑(r.length) : Int) - 1)).toNat r)) N [] 0 [] [] [] [] 0))) else none) else none)
 else
 (bif decide ((↑text.length : Int) > 10000) then
 (some [116, 111, 111, 32, 108, 111, 110, 103, 10])
 else
 (bif decide ((↑(r.length) : Int) > 200) then
 (some [116, 111, 111, 32, 108, 111, 110, 103, 10])
 else
 (I0 r N [] 0 [] [] [] [] 0)))) else none) else none
def akz (N : Nat) (text : Txt) : Option Txt := afx N (wR N) text
def afF (N : Nat) (s : List Foe) : Option (List Foe) :=
 bif Ku s then
 (both (some []) (bif decide ((0 + s.length) * 32 ≤ lim) then
 (some ([] ++ s)) else none))
 else
 (bif decide ((0 + s.length) * 32 ≤ lim) then
 (some ([] ++ s)) else none)
def Ji (N : Nat) (s : List Txt) : Option (List Txt) :=
 bif Ku s then
 (both (some []) (bif decide ((0 + s.length) * 16 ≤ lim) then
 (some ([] ++ s)) else none))
 else
 (bif decide ((0 + s.length) * 16 ≤ lim) then
 (some ([] ++ s)) else none)
def ad7 (N : Nat) (s : List Use) : Option (List Use) :=
 bif Ku s then
 (both (some []) (bif decide ((0 + s.length) * 32 ≤ lim) then
 (some ([] ++ s)) else none))
 else
 (bif decide ((0 + s.length) * 32 ≤ lim) then
 (some ([] ++ s)) else none)
def UC (N : Nat) (w : Want) : Option Want :=
 ob (F.Ji N w.2.2.1) [] fun r =>
 ob (F.ad7 N w.2.2.2.1) [] fun r_1 =>
 ob (F.Ji N w.2.2.2.2.1) [] fun r_2 =>
 ob (F.Ji N w.2.2.2.2.2) [] fun r_3 =>
 some (w.1, w.2.1, r, r_1, r_2, r_3)
def FP (N : Nat) (b : Book) (r : List Foe) (r_1 : List Txt) (t2c4 : Int) (out3c1a : List aP) (t37 : Int) (next : Int → (List Part) → Option Book) : Int → (List Part) → Option Book := fun t38 out3c3a =>
 bif decide (t38 < t37) then
 (bif decide (0 ≤ t38) then
 (bif decide (t38 < (↑(b.2.2.2.1.length) : Int)) then
 (ob (F.UC N (b.2.2.2.1.getD t38.toNat bC).1) zi fun r_3 =>
 bif decide ((out3c3a.length + [(r_3, (b.2.2.2.1.getD t38.toNat bC).2)].length) * 120 ≤ lim) then
 (next (i64.wrap (t38 + 1)) (out3c3a ++ [(r_3, (b.2.2.2.1.getD t38.toNat bC).2)])) else none) else none) else none)
 else
 (some (r, out3c1a, r_1, out3c3a, b.2.2.2.2))
def Gm (N : Nat) (b : Book) (r : List Foe) (r_1 : List Txt) (t2c4 : Int) (out3c1a : List aP) (t37 : Int) : Nat → Int → (List Part) → Option Book := lp (fun _ _ => none) fun next => FP N b r r_1 t2c4 out3c1a t37 next
def Eg (N : Nat) (I0 : Book → (List Foe) → (List Txt) → Int → (List aP) → Int → Nat → Int → (List Part) → Option Book) (b : Book) (r : List Foe) (r_1 : List Txt) (t19 : Int) (t2c4 : Int) (next : Int → (List aP) → Option Book) : Int → (List aP) → Option Book := fun t20 out3c1a =>
 bif decide (t20 < t19) then
 (bif decide (0 ≤ t20) then
 (bif decide (t20 < (↑(b.2.1.length) : Int)) then
 (ob (F.Ji N (b.2.1.getD t20.toNat az).2.2.2.2) [] fun r_2 =>
 bif decide ((out3c1a.length + [((b.2.1.getD t20.toNat az).1, (b.2.1.getD t20.toNat az).2.1, (b.2.1.getD t20.toNat az).2.2.1, (b.2.1.getD t20.toNat az).2.2.2.1, r_2)].length) * 64 ≤ lim) then
 (next (i64.wrap (t20 + 1)) (out3c1a ++ [((b.2.1.getD t20.toNat az).1, (b.2.1.getD t20.toNat az).2.1, (b.2.1.getD t20.toNat az).2.2.1, (b.2.1.getD t20.toNat az).2.2.2.1, r_2)])) else none) else none) else none)
 else
 (I0 b r r_1 t2c4 out3c1a (↑(b.2.2.2.1.length) : Int) N 0 [])
def UT (N : Nat) (b : Book) (r : List Foe) (r_1 : List Txt) (t19 : Int) (t2c4 : Int) : Nat → Int → (List aP) → Option Book := lp (fun _ _ => none) fun next => Eg N (Gm N) b r r_1 t19 t2c4 next
def aji (N : Nat) (I1 : Book → (List Foe) → (List Txt) → Int → Int → Nat → Int → (List aP) → Option Book) (b : Book) : Option Book :=
 ob (F.afF N b.1) [] fun r =>
 ob (F.Ji N b.2.2.1) [] fun r_1 =>
 I1 b r r_1 (↑(b.2.1.length) : Int) 0 N 0 []
def Su (N : Nat) (b : Book) : Option Book := aji N (UT N) b
def jg (N : Nat) (n : Int) (low : Int) (high : Int) : Option Bool :=
 bif decide (n ≥ low) then
 (some (decide (n ≤ high)))
 else
 (some false)
def yX (N : Nat) (s : Txt) (next : Int → Option Bool) : Int → Option Bool := fun i3 =>
 bif decide (i3 < (↑s.length : Int)) then
 (bif decide (0 ≤ i3) then
 (bif decide (i3 < (↑s.length : Int)) then
 (bif decide ((↑(s.getD i3.toNat 0).toNat : Int) ≥ 97) then
 (bif decide ((↑(s.getD i3.toNat 0).toNat : Int) ≤ 122) then
 (next (i64.wrap (i3 + 1)))
 else
 (bif decide ((↑(s.getD i3.toNat 0).toNat : Int) ≥ 48) then
 (bif decide ((↑(s.getD i3.toNat 0).toNat : Int) ≤ 57) then
 (next (i64.wrap (i3 + 1)))
 else
 (bif !(↑(s.getD i3.toNat 0).toNat : Int) == 45 then
 (some false)
 else
 (next (i64.wrap (i3 + 1)))))
 else
 (bif !(↑(s.getD i3.toNat 0).toNat : Int) == 45 then
 (some false)
 else
 (next (i64.wrap (i3 + 1))))))
 else
 (bif decide ((↑(s.getD i3.toNat 0).toNat : Int) ≥ 48) then
 (bif decide ((↑(s.getD i3.toNat 0).toNat : Int) ≤ 57) then
 (next (i64.wrap (i3 + 1)))
 else
 (bif !(↑(s.getD i3.toNat 0).toNat : Int) == 45 then
 (some false)
 else
 (next (i64.wrap (i3 + 1)))))
 else
 (bif !(↑(s.getD i3.toNat 0).toNat : Int) == 45 then
 (some false)
 else
 (next (i64.wrap (i3 + 1)))))) else none) else none)
 else
 (some true)
def OO (N : Nat) (s : Txt) : Nat → Int → Option Bool := lp (fun _ => none) fun next => yX N s next
def Wx (N : Nat) (I0 : Txt → Nat → Int → Option Bool) (s : Txt) : Option Bool :=
 ob (F.jg N (↑s.length : Int) 1 8) false fun r =>
 bif !r then
 (some false)
 else
 (I0 s N 0)
def xq (N : Nat) (s : Txt) : Option Bool := Wx N (OO N) s
def xU (N : Nat) (l : List Txt) (t12 : Int) (next : Int → Option Bool) : Int → Option Bool := fun t13 =>
 bif decide (t13 < t12) then
 (bif decide (0 ≤ t13) then
 (bif decide (t13 < (↑l.length : Int)) then
 (ob (F.xq N (l.getD t13.toNat [])) false fun r =>
 bif !r then
 (some false)
 else
 (bif decide (t13 > 0) then
 (bif decide (0 ≤ i64.wrap (t13 - 1)) then
 (bif decide (i64.wrap (t13 - 1) < (↑l.length : Int)) then
 (bif !Op.bytesLess (l.getD (i64.wrap (t13 - 1)).toNat []) (l.getD t13.toNat []) then
 (some false)
 else
 (next (i64.wrap (t13 + 1)))) else none) else none)
 else
 (next (i64.wrap (t13 + 1))))) else none) else none)
 else
 (some true)
def PM (N : Nat) (l : List Txt) (t12 : Int) : Nat → Int → Option Bool := lp (fun _ => none) fun next => xU N l t12 next
def TV (N : Nat) (I0 : (List Txt) → Int → Nat → Int → Option Bool) (l : List Txt) (most : Int) : Option Bool :=
 bif decide ((↑l.length : Int) > most) then
 (some false)
 else
 (I0 l (↑l.length : Int) N 0)
def sN (N : Nat) (l : List Txt) (most : Int) : Option Bool := TV N (PM N) l most
def afM (N : Nat) (f : Foe) (g : Foe) : Option Bool :=
 bif Op.bytesLess f.1 g.1 then
 (some true)
 else
 (bif f.1 == g.1 then
 (some (Op.bytesLess f.2 g.2))
 else
 (some false))
def FH (N : Nat) (s : List Txt) (v : Txt) (t7 : Int) (next : Int → Option Int) : Int → Option Int := fun t8 =>
 bif decide (t8 < t7) then
 (bif decide (0 ≤ t8) then
 (bif decide (t8 < (↑s.length : Int)) then
 (bif v == s.getD t8.toNat [] then
 (some t8)
 else
 (next (i64.wrap (t8 + 1)))) else none) else none)
 else
 (some (-1))
def VL (N : Nat) (s : List Txt) (v : Txt) (t7 : Int) : Nat → Int → Option Int := lp (fun _ => none) fun next => FH N s v t7 next
def acT (N : Nat) (I0 : (List Txt) → Txt → Int → Nat → Int → Option Int) (s : List Txt) (v : Txt) : Option Int :=
 I0 s v (↑s.length : Int) N 0
def agl (N : Nat) (s : List Txt) (v : Txt) : Option Int := acT N (VL N) s v
def yl (N : Nat) (s : List Txt) (v : Txt) : Option Bool :=
 ob (F.agl N s v) (Int.ofNat 0) fun r =>
 some (decide (r ≥ 0))
def FK (N : Nat) (b : Book) (x : List Txt) (y : List Txt) (t11 : Int) (next : Int → Option Bool) : Int → Option Bool := fun t12 =>
 bif decide (t12 < t11) then
 (bif decide (0 ≤ t12) then
 (bif decide (t12 < (↑(b.1.length) : Int)) then
 (ob (F.yl N x (b.1.getD t12.toNat gX).1) false fun r =>
 bif r then
 (ob (F.yl N y (b.1.getD t12.toNat gX).2) false fun r_1 =>
 bif r_1 then
 (some true)
 else
 (ob (F.yl N x (b.1.getD t12.toNat gX).2) false fun r_2 =>
 bif r_2 then
 (ob (F.yl N y (b.1.getD t12.toNat gX).1) false fun r_3 =>
 bif r_3 then
 (some true)
 else
 (next (i64.wrap (t12 + 1))))
 else
 (next (i64.wrap (t12 + 1)))))
 else
 (ob (F.yl N x (b.1.getD t12.toNat gX).2) false fun r_4 =>
 bif r_4 then
 (ob (F.yl N y (b.1.getD t12.toNat gX).1) false fun r_5 =>
 bif r_5 then
 (some true)
 else
 (next (i64.wrap (t12 + 1))))
 else
 (next (i64.wrap (t12 + 1))))) else none) else none)
 else
 (some false)
def UH (N : Nat) (b : Book) (x : List Txt) (y : List Txt) (t11 : Int) : Nat → Int → Option Bool := lp (fun _ => none) fun next => FK N b x y t11 next
def adE (N : Nat) (I0 : Book → (List Txt) → (List Txt) → Int → Nat → Int → Option Bool) (b : Book) (x : List Txt) (y : List Txt) : Option Bool :=
 I0 b x y (↑(b.1.length) : Int) N 0
def Om (N : Nat) (b : Book) (x : List Txt) (y : List Txt) : Option Bool := adE N (UH N) b x y
def afT (N : Nat) (s : Txt) (p1 : List Txt) : Option (Bool × List Txt) :=
 ob (F.yl N p1 s) false fun r =>
 some (r, p1)
def FN (N : Nat) (s : List Txt) (t7 : Int) (next : Int → (List Txt) → Option (Int × List Txt)) : Int → (List Txt) → Option (Int × List Txt) := fun t8 fpc0 =>
 bif decide (t8 < t7) then
 (bif decide (0 ≤ t8) then
 (bif decide (t8 < (↑s.length : Int)) then
 (ob (F.afT N (s.getD t8.toNat []) fpc0) (false, []) fun r_1 =>
 bif r_1.1 then
 (some (t8, r_1.2))
 else
 (next (i64.wrap (t8 + 1)) r_1.2)) else none) else none)
 else
 (some (-1, fpc0))
def Uo (N : Nat) (s : List Txt) (t7 : Int) : Nat → Int → (List Txt) → Option (Int × List Txt) := lp (fun _ _ => none) fun next => FN N s t7 next
def adl (N : Nat) (I0 : (List Txt) → Int → Nat → Int → (List Txt) → Option (Int × List Txt)) (s : List Txt) (p1 : List Txt) : Option (Int × List Txt) :=
 I0 s (↑s.length : Int) N 0 p1
def ahV (N : Nat) (s : List Txt) (p1 : List Txt) : Option (Int × List Txt) := adl N (Uo N) s p1
def f_9 (N : Nat) (s : List Txt) (p1 : List Txt) : Option (Bool × List Txt) :=
 ob (F.ahV N s p1) (Int.ofNat 0, []) fun r =>
 some (decide (r.1 ≥ 0), r.2)
def Q7 (N : Nat) (a : List Txt) (b : List Txt) : Option Bool :=
 ob (F.f_9 N a b) (false, []) fun r =>
 some r.1
def uF (N : Nat) (w : Want) (move3 : Bool) (t41 : Int) (next : Int → Option Bool) : Int → Option Bool := fun t42 =>
 bif decide (t42 < t41) then
 (bif decide (0 ≤ t42) then
 (bif decide (t42 < (↑(w.2.2.2.1.length) : Int)) then
 (ob (F.xq N (w.2.2.2.1.getD t42.toNat bD).1) false fun r_3 =>
 bif !r_3 then
 (some false)
 else
 (bif decide (t42 > 0) then
 (bif decide (0 ≤ i64.wrap (t42 - 1)) then
 (bif decide (i64.wrap (t42 - 1) < (↑(w.2.2.2.1.length) : Int)) then
 (bif !Op.bytesLess (w.2.2.2.1.getD (i64.wrap (t42 - 1)).toNat bD).1 (w.2.2.2.1.getD t42.toNat bD).1 then
 (some false)
 else
 (ob (F.jg N (w.2.2.2.1.getD t42.toNat bD).2.1 1 3) false fun r_4 =>
 bif !r_4 then
 (some false)
 else
 (bif (w.2.2.2.1.getD t42.toNat bD).2.1 == 3 then
 (bif (w.2.2.2.1.getD t42.toNat bD).2.2 != 0 then
 (some false)
 else
 (next (i64.wrap (t42 + 1))))
 else
 (bif !move3 then
 (some false)
 else
 (ob (F.jg N (w.2.2.2.1.getD t42.toNat bD).2.2 1 1000) false fun r_5 =>
 bif !r_5 then
 (some false)
 else
 (next (i64.wrap (t42 + 1)))))))) else none) else none)
 else
 (ob (F.jg N (w.2.2.2.1.getD t42.toNat bD).2.1 1 3) false fun r_6 =>
 bif !r_6 then
 (some false)
 else
 (bif (w.2.2.2.1.getD t42.toNat bD).2.1 == 3 then
 (bif (w.2.2.2.1.getD t42.toNat bD).2.2 != 0 then
 (some false)
 else
 (next (i64.wrap (t42 + 1))))
 else
 (bif !move3 then
 (some false)
 else
 (ob (F.jg N (w.2.2.2.1.getD t42.toNat bD).2.2 1 1000) false fun r_7 =>
 bif !r_7 then
 (some false)
 else
 (next (i64.wrap (t42 + 1))))))))) else none) else none)
 else
 (ob (F.sN N w.2.2.2.2.1 12) false fun r_8 =>
 bif !r_8 then
 (some false)
 else
 (ob (F.sN N w.2.2.2.2.2 12) false fun r_9 =>
 bif !r_9 then
 (some false)
 else
 (ob (F.Q7 N w.2.2.2.2.1 w.2.2.2.2.2) false fun r_10 =>
 bif r_10 then
 (some false)
 else
 (bif !move3 then
 (bif decide ((↑(w.2.2.2.2.1.length) : Int) > 0) then
 (some false)
 else
 (some (decide (i64.wrap (i64.wrap ((↑(w.2.2.2.1.length) : Int) + (↑(w.2.2.2.2.1.length) : Int)) + (↑(w.2.2.2.2.2.length) : Int)) > 0))))
 else
 (some (decide (i64.wrap (i64.wrap ((↑(w.2.2.2.1.length) : Int) + (↑(w.2.2.2.2.1.length) : Int)) + (↑(w.2.2.2.2.2.length) : Int)) > 0)))))))
def O0 (N : Nat) (w : Want) (move3 : Bool) (t41 : Int) : Nat → Int → Option Bool := lp (fun _ => none) fun next => uF N w move3 t41 next
def ajh (N : Nat) (I0 : Want → Bool → Int → Nat → Int → Option Bool) (w : Want) : Option Bool :=
 ob (F.jg N w.1 1 1000000) false fun r =>
 bif !r then
 (some false)
 else
 (ob (F.jg N w.2.1 1 3) false fun r_1 =>
 bif !r_1 then
 (some false)
 else
 (ob (F.sN N w.2.2.1 8) false fun r_2 =>
 bif !r_2 then
 (some false)
 else
 (bif !(w.2.1 == 1) == decide ((↑(w.2.2.1.length) : Int) > 0) then
 (some false)
 else
 (bif decide ((↑(w.2.2.2.1.length) : Int) > 8) then
 (some false)
 else
 (I0 w (w.2.1 == 1) (↑(w.2.2.2.1.length) : Int) N 0)))))
def abv (N : Nat) (w : Want) : Option Bool := ajh N (O0 N) w
def alT (N : Nat) (s : aP) (p1 : Txt) : Option (Bool × Txt) :=
 some (s.1 == p1, p1)
def PP (N : Nat) (s : List aP) (t7 : Int) (next : Int → Txt → Option (Int × Txt)) : Int → Txt → Option (Int × Txt) := fun t8 fpc0 =>
 bif decide (t8 < t7) then
 (bif decide (0 ≤ t8) then
 (bif decide (t8 < (↑s.length : Int)) then
 (ob (F.alT N (s.getD t8.toNat az) fpc0) (false, []) fun r_1 =>
 bif r_1.1 then
 (some (t8, r_1.2))
 else
 (next (i64.wrap (t8 + 1)) r_1.2)) else none) else none)
 else
 (some (-1, fpc0))
def akj (N : Nat) (s : List aP) (t7 : Int) : Nat → Int → Txt → Option (Int × Txt) := lp (fun _ _ => none) fun next => PP N s t7 next
def ap4 (N : Nat) (I0 : (List aP) → Int → Nat → Int → Txt → Option (Int × Txt)) (s : List aP) (p1 : Txt) : Option (Int × Txt) :=
 I0 s (↑s.length : Int) N 0 p1
def f_3 (N : Nat) (s : List aP) (p1 : Txt) : Option (Int × Txt) := ap4 N (akj N) s p1
def zx (N : Nat) (b : Book) (n : Txt) : Option Int :=
 ob (F.f_3 N b.2.1 n) (Int.ofNat 0, []) fun r =>
 some r.1
def akE (N : Nat) (s : Txt) (p1 : List Txt) : Option (Bool × List Txt) :=
 ob (F.yl N p1 s) false fun r =>
 some (!r, p1)
def Es (N : Nat) (s : List Txt) (t7 : Int) (next : Int → (List Txt) → Option (Int × List Txt)) : Int → (List Txt) → Option (Int × List Txt) := fun t8 fpc0 =>
 bif decide (t8 < t7) then
 (bif decide (0 ≤ t8) then
 (bif decide (t8 < (↑s.length : Int)) then
 (ob (F.akE N (s.getD t8.toNat []) fpc0) (false, []) fun r_1 =>
 bif r_1.1 then
 (some (t8, r_1.2))
 else
 (next (i64.wrap (t8 + 1)) r_1.2)) else none) else none)
 else
 (some (-1, fpc0))
def Vt (N : Nat) (s : List Txt) (t7 : Int) : Nat → Int → (List Txt) → Option (Int × List Txt) := lp (fun _ _ => none) fun next => Es N s t7 next
def aeJ (N : Nat) (I0 : (List Txt) → Int → Nat → Int → (List Txt) → Option (Int × List Txt)) (s : List Txt) (p1 : List Txt) : Option (Int × List Txt) :=
 I0 s (↑s.length : Int) N 0 p1
def aei (N : Nat) (s : List Txt) (p1 : List Txt) : Option (Int × List Txt) := aeJ N (Vt N) s p1
def ana (N : Nat) (s : List Txt) (p1 : List Txt) : Option (Bool × List Txt) :=
 ob (F.aei N s p1) (Int.ofNat 0, []) fun r =>
 some (decide (r.1 ≥ 0), r.2)
def AY (N : Nat) (a : List Txt) (b : List Txt) : Option Bool :=
 ob (F.ana N a b) (false, []) fun r =>
 some (!r.1)
def Fh (N : Nat) (b : Book) (w : Want) (t9 : Int) (next : Int → Option Bool) : Int → Option Bool := fun t10 =>
 bif decide (t10 < t9) then
 (bif decide (0 ≤ t10) then
 (bif decide (t10 < (↑(w.2.2.2.1.length) : Int)) then
 (ob (F.zx N b (w.2.2.2.1.getD t10.toNat bD).1) (Int.ofNat 0) fun r =>
 bif decide (r < 0) then
 (some false)
 else
 (next (i64.wrap (t10 + 1)))) else none) else none)
 else
 (ob (F.AY N w.2.2.2.2.1 b.2.2.1) false fun r_1 =>
 bif r_1 then
 (ob (F.AY N w.2.2.2.2.2 b.2.2.1) false fun r_2 =>
 some r_2)
 else
 (some false))
def V_ (N : Nat) (b : Book) (w : Want) (t9 : Int) : Nat → Int → Option Bool := lp (fun _ => none) fun next => Fh N b w t9 next
def ajx (N : Nat) (I0 : Book → Want → Int → Nat → Int → Option Bool) (b : Book) (w : Want) : Option Bool :=
 I0 b w (↑(w.2.2.2.1.length) : Int) N 0
def aca (N : Nat) (b : Book) (w : Want) : Option Bool := ajx N (V_ N) b w
def Fa (N : Nat) (b : Book) (p : Part) (t29 : Int) (next : Int → Option Bool) : Int → Option Bool := fun t30 =>
 bif decide (t30 < t29) then
 (bif decide (0 ≤ t30) then
 (bif decide (t30 < (↑(p.1.2.2.2.1.length) : Int)) then
 (ob (F.zx N b (p.1.2.2.2.1.getD t30.toNat bD).1) (Int.ofNat 0) fun r_2 =>
 bif decide (0 ≤ r_2) then
 (bif decide (r_2 < (↑(b.2.1.length) : Int)) then
 (bif decide (i64.wrap ((b.2.1.getD r_2.toNat az).2.2.1 + (p.1.2.2.2.1.getD t30.toNat bD).2.2) > (b.2.1.getD r_2.toNat az).2.2.2.1) then
 (some false)
 else
 (bif p.1.2.1 == 2 then
 (bif (b.2.1.getD r_2.toNat az).2.2.2.1 != 0 then
 (some false)
 else
 (bif p.1.2.1 == 1 then
 (bif (p.1.2.2.2.1.getD t30.toNat bD).2.1 != 2 then
 (ob (F.AY N (b.2.1.getD r_2.toNat az).2.2.2.2 p.1.2.2.1) false fun r_3 =>
 bif !r_3 then
 (some false)
 else
 (bif (p.1.2.2.2.1.getD t30.toNat bD).2.1 != 1 then
 (ob (F.AY N p.1.2.2.1 (b.2.1.getD r_2.toNat az).2.2.2.2) false fun r_4 =>
 bif !r_4 then
 (some false)
 else
 (next (i64.wrap (t30 + 1))))
 else
 (next (i64.wrap (t30 + 1)))))
 else
 (bif (p.1.2.2.2.1.getD t30.toNat bD).2.1 != 1 then
 (ob (F.AY N p.1.2.2.1 (b.2.1.getD r_2.toNat az).2.2.2.2) false fun r_5 =>
 bif !r_5 then
 (some false)
 else
 (next (i64.wrap (t30 + 1))))
 else
 (next (i64.wrap (t30 + 1)))))
 else
 (next (i64.wrap (t30 + 1)))))
 else
 (bif p.1.2.1 == 1 then
 (bif (p.1.2.2.2.1.getD t30.toNat bD).2.1 != 2 then
 (ob (F.AY N (b.2.1.getD r_2.toNat az).2.2.2.2 p.1.2.2.1) false fun r_6 =>
 bif !r_6 then
 (some false)
 else
 (bif (p.1.2.2.2.1.getD t30.toNat bD).2.1 != 1 then
 (ob (F.AY N p.1.2.2.1 (b.2.1.getD r_2.toNat az).2.2.2.2) false fun r_7 =>
 bif !r_7 then
 (some false)
 else
 (next (i64.wrap (t30 + 1))))
 else
 (next (i64.wrap (t30 + 1)))))
 else
 (bif (p.1.2.2.2.1.getD t30.toNat bD).2.1 != 1 then
 (ob (F.AY N p.1.2.2.1 (b.2.1.getD r_2.toNat az).2.2.2.2) false fun r_8 =>
 bif !r_8 then
 (some false)
 else
 (next (i64.wrap (t30 + 1))))
 else
 (next (i64.wrap (t30 + 1)))))
 else
 (next (i64.wrap (t30 + 1)))))) else none) else none) else none) else none)
 else
 (some true)
def Vh (N : Nat) (b : Book) (p : Part) (t29 : Int) : Nat → Int → Option Bool := lp (fun _ => none) fun next => Fa N b p t29 next
def aeF (N : Nat) (I0 : Book → Part → Int → Nat → Int → Option Bool) (b : Book) (p : Part) : Option Bool :=
 bif decide (p.1.1 > b.2.2.2.2) then
 (some false)
 else
 (ob (F.abv N p.1) false fun r =>
 bif !r then
 (some false)
 else
 (ob (F.aca N b p.1) false fun r_1 =>
 bif !r_1 then
 (some false)
 else
 (I0 b p (↑(p.1.2.2.2.1.length) : Int) N 0)))
def aay (N : Nat) (b : Book) (p : Part) : Option Bool := aeF N (Vh N) b p
def anU (N : Nat) (v : Use) (p1 : Use) : Option (Bool × Use) :=
 some (p1.1 == v.1, p1)
def IQ (N : Nat) (s : List Use) (t7 : Int) (next : Int → Txt → Int → Int → Option (Int × Use)) : Int → Txt → Int → Int → Option (Int × Use) := fun t8 fpc0 fpc1 fpc2 =>
 bif decide (t8 < t7) then
 (bif decide (0 ≤ t8) then
 (bif decide (t8 < (↑s.length : Int)) then
 (ob (F.anU N (s.getD t8.toNat bD) (fpc0, fpc1, fpc2)) (false, [], Int.ofNat 0, Int.ofNat 0) fun r_1 =>
 bif r_1.1 then
 (some (t8, r_1.2))
 else
 (next (i64.wrap (t8 + 1)) r_1.2.1 r_1.2.2.1 r_1.2.2.2)) else none) else none)
 else
 (some (-1, fpc0, fpc1, fpc2))
def ad2 (N : Nat) (s : List Use) (t7 : Int) : Nat → Int → Txt → Int → Int → Option (Int × Use) := lp (fun _ _ _ _ => none) fun next => IQ N s t7 next
def aqc (N : Nat) (I0 : (List Use) → Int → Nat → Int → Txt → Int → Int → Option (Int × Use)) (s : List Use) (p1 : Use) : Option (Int × Use) :=
 I0 s (↑s.length : Int) N 0 p1.1 p1.2.1 p1.2.2
def f_8 (N : Nat) (s : List Use) (p1 : Use) : Option (Int × Use) := aqc N (ad2 N) s p1
def f_4 (N : Nat) (s : List Use) (p1 : Use) : Option (Bool × Use) :=
 ob (F.f_8 N s p1) (Int.ofNat 0, [], Int.ofNat 0, Int.ofNat 0) fun r =>
 some (decide (r.1 ≥ 0), r.2)
def abg (N : Nat) (u : Use) (p1 : Want) : Option (Bool × Want) :=
 ob (F.f_4 N p1.2.2.2.1 u) (false, [], Int.ofNat 0, Int.ofNat 0) fun r =>
 some (r.1, p1)
def xN (N : Nat) (s : List Use) (t7 : Int) (next : Int → Int → Int → (List Txt) → (List Use) → (List Txt) → (List Txt) → Option (Int × Want)) : Int → Int → Int → (List Txt) → (List Use) → (List Txt) → (List Txt) → Option (Int × Want) := fun t8 fpc0 fpc1 fpc2 fpc3 fpc4 fpc5 =>
 bif decide (t8 < t7) then
 (bif decide (0 ≤ t8) then
 (bif decide (t8 < (↑s.length : Int)) then
 (ob (F.abg N (s.getD t8.toNat bD) (fpc0, fpc1, fpc2, fpc3, fpc4, fpc5)) (false, Int.ofNat 0, Int.ofNat 0, [], [], [], []) fun r_1 =>
 bif r_1.1 then
 (some (t8, r_1.2))
 else
 (next (i64.wrap (t8 + 1)) r_1.2.1 r_1.2.2.1 r_1.2.2.2.1 r_1.2.2.2.2.1 r_1.2.2.2.2.2.1 r_1.2.2.2.2.2.2)) else none) else none)
 else
 (some (-1, fpc0, fpc1, fpc2, fpc3, fpc4, fpc5))
def Ve (N : Nat) (s : List Use) (t7 : Int) : Nat → Int → Int → Int → (List Txt) → (List Use) → (List Txt) → (List Txt) → Option (Int × Want) := lp (fun _ _ _ _ _ _ _ => none) fun next => xN N s t7 next
def aex (N : Nat) (I0 : (List Use) → Int → Nat → Int → Int → Int → (List Txt) → (List Use) → (List Txt) → (List Txt) → Option (Int × Want)) (s : List Use) (p1 : Want) : Option (Int × Want) :=
 I0 s (↑s.length : Int) N 0 p1.1 p1.2.1 p1.2.2.1 p1.2.2.2.1 p1.2.2.2.2.1 p1.2.2.2.2.2
def aeh (N : Nat) (s : List Use) (p1 : Want) : Option (Int × Want) := aex N (Ve N) s p1
def f_7 (N : Nat) (s : List Use) (p1 : Want) : Option (Bool × Want) :=
 ob (F.aeh N s p1) (Int.ofNat 0, Int.ofNat 0, Int.ofNat 0, [], [], [], []) fun r =>
 some (decide (r.1 ≥ 0), r.2)
def FW (N : Nat) (a : Want) (b : Want) : Option Bool :=
 ob (F.f_7 N a.2.2.2.1 b) (false, Int.ofNat 0, Int.ofNat 0, [], [], [], []) fun r =>
 some r.1
def F7 (N : Nat) (a : Want) (b : Want) : Option Bool :=
 ob (F.Q7 N a.2.2.2.2.1 b.2.2.2.2.1) false fun r =>
 bif r then
 (some true)
 else
 (ob (F.Q7 N a.2.2.2.2.1 b.2.2.2.2.2) false fun r_1 =>
 bif r_1 then
 (some true)
 else
 (ob (F.Q7 N a.2.2.2.2.2 b.2.2.2.2.1) false fun r_2 =>
 some r_2))
def D_ (N : Nat) (nx4 : Int → Option Bool) (b : Book) (t150 : Int) (t151 : Int) (t181 : List Part) (t182 : Int) (p8c0 : Int) (p8c1 : Int) (p8c2 : List Txt) (p8c3 : List Use) (p8c4 : List Txt) (p8c5 : List Txt) (p8c6 : Bool) (next : Int → Option Bool) : Int → Option Bool := fun t183 =>
 bif decide (t183 < t182) then
 (bif decide (0 ≤ t183) then
 (bif decide (t183 < (↑(t181.length) : Int)) then
 (ob (F.FW N (p8c0, p8c1, p8c2, p8c3, p8c4, p8c5) (t181.getD t183.toNat bC).1) false fun r_13 =>
 bif r_13 then
 (some false)
 else
 (ob (F.F7 N (p8c0, p8c1, p8c2, p8c3, p8c4, p8c5) (t181.getD t183.toNat bC).1) false fun r_14 =>
 bif r_14 then
 (some false)
 else
 (next (i64.wrap (t183 + 1))))) else none) else none)
 else
 (nx4 (i64.wrap (t151 + 1)))
def G6 (N : Nat) (nx4 : Int → Option Bool) (b : Book) (t150 : Int) (t151 : Int) (t181 : List Part) (t182 : Int) (p8c0 : Int) (p8c1 : Int) (p8c2 : List Txt) (p8c3 : List Use) (p8c4 : List Txt) (p8c5 : List Txt) (p8c6 : Bool) : Nat → Int → Option Bool := lp (fun _ => none) fun next => D_ N nx4 b t150 t151 t181 t182 p8c0 p8c1 p8c2 p8c3 p8c4 p8c5 p8c6 next
def Ef (N : Nat) (I0 : Int → (List Part) → Int → Int → Int → (List Txt) → (List Use) → (List Txt) → (List Txt) → Bool → Nat → Int → Option Bool) (b : Book) (t150 : Int) (next : Int → Option Bool) : Int → Option Bool := fun t151 =>
 bif decide (t151 < t150) then
 (bif decide (0 ≤ t151) then
 (bif decide (t151 < (↑(b.2.2.2.1.length) : Int)) then
 (bif decide (t151 > 0) then
 (bif decide (0 ≤ i64.wrap (t151 - 1)) then
 (bif decide (i64.wrap (t151 - 1) < (↑(b.2.2.2.1.length) : Int)) then
 (bif decide ((b.2.2.2.1.getD (i64.wrap (t151 - 1)).toNat bC).1.1 ≥ (b.2.2.2.1.getD t151.toNat bC).1.1) then
 (some false)
 else
 (ob (F.aay N b (b.2.2.2.1.getD t151.toNat bC)) false fun r_12 =>
 bif !r_12 then
 (some false)
 else
 (bif decide (0 ≤ t151) then
 (bif decide (t151 ≤ (↑(b.2.2.2.1.length) : Int)) then
 (I0 t151 (List.drop (Int.toNat 0) (List.take t151.toNat b.2.2.2.1)) (↑(List.drop (Int.toNat 0) (List.take t151.toNat b.2.2.2.1)).length : Int) ((b.2.2.2.1.getD t151.toNat bC).1.1) ((b.2.2.2.1.getD t151.toNat bC).1.2.1) ((b.2.2.2.1.getD t151.toNat bC).1.2.2.1) ((b.2.2.2.1.getD t151.toNat bC).1.2.2.2.1) ((b.2.2.2.1.getD t151.toNat bC).1.2.2.2.2.1) ((b.2.2.2.1.getD t151.toNat bC).1.2.2.2.2.2) ((b.2.2.2.1.getD t151.toNat bC).2) N 0) else none) else none))) else none) else none)
 else
 (ob (F.aay N b (b.2.2.2.1.getD t151.toNat bC)) false fun r_15 =>
 bif !r_15 then
 (some false)
 else
 (bif decide (0 ≤ t151) then
 (bif decide (t151 ≤ (↑(b.2.2.2.1.length) : Int)) then
 (I0 t151 (List.drop (Int.toNat 0) (List.take t151.toNat b.2.2.2.1)) (↑(List.drop (Int.toNat 0) (List.take t151.toNat b.2.2.2.1)).length : Int) ((b.2.2.2.1.getD t151.toNat bC).1.1) ((b.2.2.2.1.getD t151.toNat bC).1.2.1) ((b.2.2.2.1.getD t151.toNat bC).1.2.2.1) ((b.2.2.2.1.getD t151.toNat bC).1.2.2.2.1) ((b.2.2.2.1.getD t151.toNat bC).1.2.2.2.2.1) ((b.2.2.2.1.getD t151.toNat bC).1.2.2.2.2.2) ((b.2.2.2.1.getD t151.toNat bC).2) N 0) else none) else none))) else none) else none)
 else
 (some true)
def A8 (N : Nat) (b : Book) (t150 : Int) : Nat → Int → Option Bool := lp (fun _ => none) fun next => Ef N (G6 N next b t150) b t150 next
def FO (N : Nat) (I1 : Book → Int → Nat → Int → Option Bool) (b : Book) (t82 : Int) (next : Int → Option Bool) : Int → Option Bool := fun t83 =>
 bif decide (t83 < t82) then
 (bif decide (0 ≤ t83) then
 (bif decide (t83 < (↑(b.2.1.length) : Int)) then
 (ob (F.xq N (b.2.1.getD t83.toNat az).1) false fun r_5 =>
 bif !r_5 then
 (some false)
 else
 (bif decide (t83 > 0) then
 (bif decide (0 ≤ i64.wrap (t83 - 1)) then
 (bif decide (i64.wrap (t83 - 1) < (↑(b.2.1.length) : Int)) then
 (bif !Op.bytesLess (b.2.1.getD (i64.wrap (t83 - 1)).toNat az).1 (b.2.1.getD t83.toNat az).1 then
 (some false)
 else
 (ob (F.jg N (b.2.1.getD t83.toNat az).2.1 0 1000) false fun r_6 =>
 bif !r_6 then
 (some false)
 else
 (bif decide ((b.2.1.getD t83.toNat az).2.2.1 < 0) then
 (some false)
 else
 (bif decide ((b.2.1.getD t83.toNat az).2.2.1 > (b.2.1.getD t83.toNat az).2.2.2.1) then
 (some false)
 else
 (bif decide ((b.2.1.getD t83.toNat az).2.2.2.1 > (b.2.1.getD t83.toNat az).2.1) then
 (some false)
 else
 (ob (F.sN N (b.2.1.getD t83.toNat az).2.2.2.2 8) false fun r_7 =>
 bif !r_7 then
 (some false)
 else
 (ob (F.Om N b (b.2.1.getD t83.toNat az).2.2.2.2 (b.2.1.getD t83.toNat az).2.2.2.2) false fun r_8 =>
 bif r_8 then
 (some false)
 else
 (next (i64.wrap (t83 + 1)))))))))) else none) else none)
 else
 (ob (F.jg N (b.2.1.getD t83.toNat az).2.1 0 1000) false fun r_9 =>
 bif !r_9 then
 (some false)
 else
 (bif decide ((b.2.1.getD t83.toNat az).2.2.1 < 0) then
 (some false)
 else
 (bif decide ((b.2.1.getD t83.toNat az).2.2.1 > (b.2.1.getD t83.toNat az).2.2.2.1) then
 (some false)
 else
 (bif decide ((b.2.1.getD t83.toNat az).2.2.2.1 > (b.2.1.getD t83.toNat az).2.1) then
 (some false)
 else
 (ob (F.sN N (b.2.1.getD t83.toNat az).2.2.2.2 8) false fun r_10 =>
 bif !r_10 then
 (some false)
 else
 (ob (F.Om N b (b.2.1.getD t83.toNat az).2.2.2.2 (b.2.1.getD t83.toNat az).2.2.2.2) false fun r_11 =>
 bif r_11 then
 (some false)
 else
 (next (i64.wrap (t83 + 1))))))))))) else none) else none)
 else
 (I1 b (↑(b.2.2.2.1.length) : Int) N 0)
def zZ (N : Nat) (b : Book) (t82 : Int) : Nat → Int → Option Bool := lp (fun _ => none) fun next => FO N (A8 N) b t82 next
def EO (N : Nat) (I2 : Book → Int → Nat → Int → Option Bool) (b : Book) (t41 : Int) (next : Int → Option Bool) : Int → Option Bool := fun t42 =>
 bif decide (t42 < t41) then
 (bif decide (0 ≤ t42) then
 (bif decide (t42 < (↑(b.1.length) : Int)) then
 (ob (F.xq N (b.1.getD t42.toNat gX).1) false fun r_2 =>
 bif !r_2 then
 (some false)
 else
 (ob (F.xq N (b.1.getD t42.toNat gX).2) false fun r_3 =>
 bif !r_3 then
 (some false)
 else
 (bif !Op.bytesLess (b.1.getD t42.toNat gX).1 (b.1.getD t42.toNat gX).2 then
 (some false)
 else
 (bif decide (t42 > 0) then
 (bif decide (0 ≤ i64.wrap (t42 - 1)) then
 (bif decide (i64.wrap (t42 - 1) < (↑(b.1.length) : Int)) then
 (ob (F.afM N (b.1.getD (i64.wrap (t42 - 1)).toNat gX) (b.1.getD t42.toNat gX)) false fun r_4 =>
 bif !r_4 then
 (some false)
 else
 (next (i64.wrap (t42 + 1)))) else none) else none)
 else
 (next (i64.wrap (t42 + 1))))))) else none) else none)
 else
 (I2 b (↑(b.2.1.length) : Int) N 0)
def PT (N : Nat) (b : Book) (t41 : Int) : Nat → Int → Option Bool := lp (fun _ => none) fun next => EO N (zZ N) b t41 next
def aiW (N : Nat) (I3 : Book → Int → Nat → Int → Option Bool) (b : Book) : Option Bool :=
 bif decide ((↑(b.1.length) : Int) > 12) then
 (some false)
 else
 (bif decide ((↑(b.2.1.length) : Int) > 8) then
 (some false)
 else
 (bif decide ((↑(b.2.2.2.1.length) : Int) > 6) then
 (some false)
 else
 (ob (F.sN N b.2.2.1 12) false fun r =>
 bif !r then
 (some false)
 else
 (ob (F.jg N b.2.2.2.2 0 1000000) false fun r_1 =>
 bif !r_1 then
 (some false)
 else
 (I3 b (↑(b.1.length) : Int) N 0)))))
def Jv (N : Nat) (b : Book) : Option Bool := aiW N (PT N) b
def UX (N : Nat) (s : Book) (b : Book) : Option (Txt × Book) :=
 ob (F.Jv N b) false fun r =>
 bif !r then
 (some ([110, 111], s))
 else
 (some ([111, 107], b))
def Et (N : Nat) (s : Txt) (next : Int → Option Int) : Int → Option Int := fun i3 =>
 bif decide (i3 < (↑s.length : Int)) then
 (bif decide (0 ≤ i3) then
 (bif decide (i3 < (↑s.length : Int)) then
 (bif decide ((↑(s.getD i3.toNat 0).toNat : Int) < 48) then
 (some (-1))
 else
 (bif decide (0 ≤ i3) then
 (bif decide (i3 < (↑s.length : Int)) then
 (bif decide ((↑(s.getD i3.toNat 0).toNat : Int) > 57) then
 (some (-1))
 else
 (next (i64.wrap (i3 + 1)))) else none) else none)) else none) else none)
 else
 (ob (F.strconv_Atoi N s) (Int.ofNat 0) fun r_1 =>
 some r_1)
def O5 (N : Nat) (s : Txt) : Nat → Int → Option Int := lp (fun _ => none) fun next => Et N s next
def aie (N : Nat) (I0 : Txt → Nat → Int → Option Int) (s : Txt) : Option Int :=
 ob (F.jg N (↑s.length : Int) 1 7) false fun r =>
 bif !r then
 (some (-1))
 else
 (bif decide ((↑s.length : Int) > 1) then
 (bif decide (0 < (↑s.length : Int)) then
 (bif (↑(s.getD (Int.toNat 0) 0).toNat : Int) == 48 then
 (some (-1))
 else
 (I0 s N 0)) else none)
 else
 (I0 s N 0))
def uT (N : Nat) (s : Txt) : Option Int := aie N (O5 N) s
def mO (N : Nat) (s : Txt) : Option (List Txt) :=
 bif s == [45] then
 (some [])
 else
 (ob (F.strings_Split N s [44]) [] fun r =>
 some r)
def Tn (N : Nat) (nx0 : Int → (List Use) → Option (List Use)) (r : List Txt) (t15 : Int) (t16 : Int) (out3a : List Use) (x5 : Txt) (t23 : Int) (u6c0 : Txt) (u6c1 : Int) (u6c2 : Int) (t22a : List Txt) (next : Int → Option (List Use)) : Int → Option (List Use) := fun t24 =>
 bif decide (t24 < t23) then
 (bif decide (0 ≤ t24) then
 (bif decide (t24 < (↑t22a.length : Int)) then
 (bif decide (t24 > 0) then
 (ob (F.strings_Count N x5 (t22a.getD t24.toNat [])) (Int.ofNat 0) fun r_1 =>
 bif r_1 == 1 then
 (ob (F.strings_Cut N x5 (t22a.getD t24.toNat [])) ([], [], false) fun r_2 =>
 ob (F.uT N r_2.2.1) (Int.ofNat 0) fun r_3 =>
 bif decide ((out3a.length + [(r_2.1, t24, r_3)].length) * 32 ≤ lim) then
 (nx0 (i64.wrap (t16 + 1)) (out3a ++ [(r_2.1, t24, r_3)])) else none)
 else
 (next (i64.wrap (t24 + 1))))
 else
 (next (i64.wrap (t24 + 1)))) else none) else none)
 else
 (bif decide ((out3a.length + [(u6c0, u6c1, u6c2)].length) * 32 ≤ lim) then
 (nx0 (i64.wrap (t16 + 1)) (out3a ++ [(u6c0, u6c1, u6c2)])) else none)
def iE (N : Nat) (nx0 : Int → (List Use) → Option (List Use)) (r : List Txt) (t15 : Int) (t16 : Int) (out3a : List Use) (x5 : Txt) (t23 : Int) (u6c0 : Txt) (u6c1 : Int) (u6c2 : Int) (t22a : List Txt) : Nat → Int → Option (List Use) := lp (fun _ => none) fun next => Tn N nx0 r t15 t16 out3a x5 t23 u6c0 u6c1 u6c2 t22a next
def xX (N : Nat) (I0 : Int → (List Use) → Txt → Int → Txt → Int → Int → (List Txt) → Nat → Int → Option (List Use)) (r : List Txt) (t15 : Int) (next : Int → (List Use) → Option (List Use)) : Int → (List Use) → Option (List Use) := fun t16 out3a =>
 bif decide (t16 < t15) then
 (bif decide (0 ≤ t16) then
 (bif decide (t16 < (↑(r.length) : Int)) then
 (I0 t16 out3a (r.getD t16.toNat []) (↑[[], [60], [62]].length : Int) (r.getD t16.toNat []) 3 0 ([[], [60], [62]]) N 0) else none) else none)
 else
 (some out3a)
def Oi (N : Nat) (r : List Txt) (t15 : Int) : Nat → Int → (List Use) → Option (List Use) := lp (fun _ _ => none) fun next => xX N (iE N next r t15) r t15 next
def WH (N : Nat) (I1 : (List Txt) → Int → Nat → Int → (List Use) → Option (List Use)) (s : Txt) : Option (List Use) :=
 ob (F.mO N s) [] fun r =>
 I1 r (↑(r.length) : Int) N 0 []
def FY (N : Nat) (s : Txt) : Option (List Use) := WH N (Oi N) s
def am9 (N : Nat) (p : Part) (p1 : Int) : Option (Bool × Int) :=
 some (p.1.1 == p1, p1)
def PD (N : Nat) (s : List Part) (t7 : Int) (next : Int → Int → Option (Int × Int)) : Int → Int → Option (Int × Int) := fun t8 fpc0 =>
 bif decide (t8 < t7) then
 (bif decide (0 ≤ t8) then
 (bif decide (t8 < (↑s.length : Int)) then
 (ob (F.am9 N (s.getD t8.toNat bC) fpc0) (false, Int.ofNat 0) fun r_1 =>
 bif r_1.1 then
 (some (t8, r_1.2))
 else
 (next (i64.wrap (t8 + 1)) r_1.2)) else none) else none)
 else
 (some (-1, fpc0))
def aet (N : Nat) (s : List Part) (t7 : Int) : Nat → Int → Int → Option (Int × Int) := lp (fun _ _ => none) fun next => PD N s t7 next
def apZ (N : Nat) (I0 : (List Part) → Int → Nat → Int → Int → Option (Int × Int)) (s : List Part) (p1 : Int) : Option (Int × Int) :=
 I0 s (↑s.length : Int) N 0 p1
def f_0 (N : Nat) (s : List Part) (p1 : Int) : Option (Int × Int) := apZ N (aet N) s p1
def Px (N : Nat) (b : Book) (number : Int) : Option Int :=
 ob (F.f_0 N b.2.2.2.1 number) (Int.ofNat 0, Int.ofNat 0) fun r =>
 some r.1
def EP (N : Nat) (s1 : List Txt) (s2 : List Txt) (t12 : Int) (next : Int → Option Bool) : Int → Option Bool := fun t13 =>
 bif decide (t13 < t12) then
 (bif decide (0 ≤ t13) then
 (bif decide (t13 < (↑s1.length : Int)) then
 (bif decide (0 ≤ t13) then
 (bif decide (t13 < (↑s2.length : Int)) then
 (bif !s1.getD t13.toNat [] == s2.getD t13.toNat [] then
 (some false)
 else
 (next (i64.wrap (t13 + 1)))) else none) else none) else none) else none)
 else
 (some true)
def Un (N : Nat) (s1 : List Txt) (s2 : List Txt) (t12 : Int) : Nat → Int → Option Bool := lp (fun _ => none) fun next => EP N s1 s2 t12 next
def akd (N : Nat) (I0 : (List Txt) → (List Txt) → Int → Nat → Int → Option Bool) (s1 : List Txt) (s2 : List Txt) : Option Bool :=
 bif (↑s1.length : Int) != (↑s2.length : Int) then
 (some false)
 else
 (I0 s1 s2 (↑s1.length : Int) N 0)
def VF (N : Nat) (s1 : List Txt) (s2 : List Txt) : Option Bool := akd N (Un N) s1 s2
def EH (N : Nat) (s1 : List Use) (s2 : List Use) (t12 : Int) (next : Int → Option Bool) : Int → Option Bool := fun t13 =>
 bif decide (t13 < t12) then
 (bif decide (0 ≤ t13) then
 (bif decide (t13 < (↑s1.length : Int)) then
 (bif decide (0 ≤ t13) then
 (bif decide (t13 < (↑s2.length : Int)) then
 (bif !((s1.getD t13.toNat bD).1 == (s2.getD t13.toNat bD).1 && ((s1.getD t13.toNat bD).2.1 == (s2.getD t13.toNat bD).2.1 && ((s1.getD t13.toNat bD).2.2 == (s2.getD t13.toNat bD).2.2 && true))) then
 (some false)
 else
 (next (i64.wrap (t13 + 1)))) else none) else none) else none) else none)
 else
 (some true)
def VA (N : Nat) (s1 : List Use) (s2 : List Use) (t12 : Int) : Nat → Int → Option Bool := lp (fun _ => none) fun next => EH N s1 s2 t12 next
def aiJ (N : Nat) (I0 : (List Use) → (List Use) → Int → Nat → Int → Option Bool) (s1 : List Use) (s2 : List Use) : Option Bool :=
 bif (↑s1.length : Int) != (↑s2.length : Int) then
 (some false)
 else
 (I0 s1 s2 (↑s1.length : Int) N 0)
def ahd (N : Nat) (s1 : List Use) (s2 : List Use) : Option Bool := aiJ N (VA N) s1 s2
def NC (N : Nat) (a : Want) (b : Want) : Option Bool :=
 bif a.1 == b.1 then
 (bif a.2.1 == b.2.1 then
 (ob (F.VF N a.2.2.1 b.2.2.1) false fun r =>
 bif r then
 (ob (F.ahd N a.2.2.2.1 b.2.2.2.1) false fun r_1 =>
 bif r_1 then
 (ob (F.VF N a.2.2.2.2.1 b.2.2.2.2.1) false fun r_2 =>
 bif r_2 then
 (ob (F.VF N a.2.2.2.2.2 b.2.2.2.2.2) false fun r_3 =>
 some r_3)
 else
 (some false))
 else
 (some false))
 else
 (some false))
 else
 (some false))
 else
 (some false)
def aaV (N : Nat) (p : Part) (p1 : Want) : Option (Bool × Want) :=
 ob (F.FW N p.1 p1) false fun r =>
 some (r, p1)
def OX (N : Nat) (s : List Part) (t7 : Int) (next : Int → Int → Int → (List Txt) → (List Use) → (List Txt) → (List Txt) → Option (Int × Want)) : Int → Int → Int → (List Txt) → (List Use) → (List Txt) → (List Txt) → Option (Int × Want) := fun t8 fpc0 fpc1 fpc2 fpc3 fpc4 fpc5 =>
 bif decide (t8 < t7) then
 (bif decide (0 ≤ t8) then
 (bif decide (t8 < (↑s.length : Int)) then
 (ob (F.aaV N (s.getD t8.toNat bC) (fpc0, fpc1, fpc2, fpc3, fpc4, fpc5)) (false, Int.ofNat 0, Int.ofNat 0, [], [], [], []) fun r_1 =>
 bif r_1.1 then
 (some (t8, r_1.2))
 else
 (next (i64.wrap (t8 + 1)) r_1.2.1 r_1.2.2.1 r_1.2.2.2.1 r_1.2.2.2.2.1 r_1.2.2.2.2.2.1 r_1.2.2.2.2.2.2)) else none) else none)
 else
 (some (-1, fpc0, fpc1, fpc2, fpc3, fpc4, fpc5))
def akI (N : Nat) (s : List Part) (t7 : Int) : Nat → Int → Int → Int → (List Txt) → (List Use) → (List Txt) → (List Txt) → Option (Int × Want) := lp (fun _ _ _ _ _ _ _ => none) fun next => OX N s t7 next
def aqm (N : Nat) (I0 : (List Part) → Int → Nat → Int → Int → Int → (List Txt) → (List Use) → (List Txt) → (List Txt) → Option (Int × Want)) (s : List Part) (p1 : Want) : Option (Int × Want) :=
 I0 s (↑s.length : Int) N 0 p1.1 p1.2.1 p1.2.2.1 p1.2.2.2.1 p1.2.2.2.2.1 p1.2.2.2.2.2
def f_5 (N : Nat) (s : List Part) (p1 : Want) : Option (Int × Want) := aqm N (akI N) s p1
def f_1 (N : Nat) (s : List Part) (p1 : Want) : Option (Bool × Want) :=
 ob (F.f_5 N s p1) (Int.ofNat 0, Int.ofNat 0, Int.ofNat 0, [], [], [], []) fun r =>
 some (decide (r.1 ≥ 0), r.2)
def aa5 (N : Nat) (p : Part) (p1 : Want) : Option (Bool × Want) :=
 ob (F.F7 N p.1 p1) false fun r =>
 some (r, p1)
def NJ (N : Nat) (s : List Part) (t7 : Int) (next : Int → Int → Int → (List Txt) → (List Use) → (List Txt) → (List Txt) → Option (Int × Want)) : Int → Int → Int → (List Txt) → (List Use) → (List Txt) → (List Txt) → Option (Int × Want) := fun t8 fpc0 fpc1 fpc2 fpc3 fpc4 fpc5 =>
 bif decide (t8 < t7) then
 (bif decide (0 ≤ t8) then
 (bif decide (t8 < (↑s.length : Int)) then
 (ob (F.aa5 N (s.getD t8.toNat bC) (fpc0, fpc1, fpc2, fpc3, fpc4, fpc5)) (false, Int.ofNat 0, Int.ofNat 0, [], [], [], []) fun r_1 =>
 bif r_1.1 then
 (some (t8, r_1.2))
 else
 (next (i64.wrap (t8 + 1)) r_1.2.1 r_1.2.2.1 r_1.2.2.2.1 r_1.2.2.2.2.1 r_1.2.2.2.2.2.1 r_1.2.2.2.2.2.2)) else none) else none)
 else
 (some (-1, fpc0, fpc1, fpc2, fpc3, fpc4, fpc5))
def ads (N : Nat) (s : List Part) (t7 : Int) : Nat → Int → Int → Int → (List Txt) → (List Use) → (List Txt) → (List Txt) → Option (Int × Want) := lp (fun _ _ _ _ _ _ _ => none) fun next => NJ N s t7 next
def aqS (N : Nat) (I0 : (List Part) → Int → Nat → Int → Int → Int → (List Txt) → (List Use) → (List Txt) → (List Txt) → Option (Int × Want)) (s : List Part) (p1 : Want) : Option (Int × Want) :=
 I0 s (↑s.length : Int) N 0 p1.1 p1.2.1 p1.2.2.1 p1.2.2.2.1 p1.2.2.2.2.1 p1.2.2.2.2.2
def f_6 (N : Nat) (s : List Part) (p1 : Want) : Option (Int × Want) := aqS N (ads N) s p1
def f_2 (N : Nat) (s : List Part) (p1 : Want) : Option (Bool × Want) :=
 ob (F.f_6 N s p1) (Int.ofNat 0, Int.ofNat 0, Int.ofNat 0, [], [], [], []) fun r =>
 some (decide (r.1 ≥ 0), r.2)
def xH (N : Nat) (a : List Txt) (b : List Txt) : Option (List Txt) :=
 ob (F.Ji N a) [] fun r =>
 bif decide ((List.length r + b.length) * 16 ≤ lim) then
 (some (gZ (srt (r ++ b)))) else none
def Em (N : Nat) (b : Book) (r_6 : Bool × Want) (t109 : Int) (next : Int → Option Int) : Int → Option Int := fun t110 =>
 bif decide (t110 < t109) then
 (bif decide (0 ≤ t110) then
 (bif decide (t110 < (↑(r_6.2.2.2.2.1.length) : Int)) then
 (ob (F.zx N b (r_6.2.2.2.2.1.getD t110.toNat bD).1) (Int.ofNat 0) fun r_8 =>
 bif decide (0 ≤ r_8) then
 (bif decide (r_8 < (↑(b.2.1.length) : Int)) then
 (bif (r_6.2.2.2.2.1.getD t110.toNat bD).2.1 == 1 then
 (bif decide ((b.2.1.getD r_8.toNat az).2.2.1 < (r_6.2.2.2.2.1.getD t110.toNat bD).2.2) then
 (some 9)
 else
 (bif (r_6.2.2.2.2.1.getD t110.toNat bD).2.1 == 2 then
 (bif decide (i64.wrap ((b.2.1.getD r_8.toNat az).2.2.2.1 + (r_6.2.2.2.2.1.getD t110.toNat bD).2.2) > (b.2.1.getD r_8.toNat az).2.1) then
 (some 10)
 else
 (bif r_6.2.2.1 == 2 then
 (bif decide ((b.2.1.getD r_8.toNat az).2.2.2.1 > 0) then
 (some 11)
 else
 (next (i64.wrap (t110 + 1))))
 else
 (next (i64.wrap (t110 + 1)))))
 else
 (bif r_6.2.2.1 == 2 then
 (bif decide ((b.2.1.getD r_8.toNat az).2.2.2.1 > 0) then
 (some 11)
 else
 (next (i64.wrap (t110 + 1))))
 else
 (next (i64.wrap (t110 + 1))))))
 else
 (bif (r_6.2.2.2.2.1.getD t110.toNat bD).2.1 == 2 then
 (bif decide (i64.wrap ((b.2.1.getD r_8.toNat az).2.2.2.1 + (r_6.2.2.2.2.1.getD t110.toNat bD).2.2) > (b.2.1.getD r_8.toNat az).2.1) then
 (some 10)
 else
 (bif r_6.2.2.1 == 2 then
 (bif decide ((b.2.1.getD r_8.toNat az).2.2.2.1 > 0) then
 (some 11)
 else
 (next (i64.wrap (t110 + 1))))
 else
 (next (i64.wrap (t110 + 1)))))
 else
 (bif r_6.2.2.1 == 2 then
 (bif decide ((b.2.1.getD r_8.toNat az).2.2.2.1 > 0) then
 (some 11)
 else
 (next (i64.wrap (t110 + 1))))
 else
 (next (i64.wrap (t110 + 1)))))) else none) else none) else none) else none)
 else
 (some 0)
def zD (N : Nat) (b : Book) (r_6 : Bool × Want) (t109 : Int) : Nat → Int → Option Int := lp (fun _ => none) fun next => Em N b r_6 t109 next
def yN (N : Nat) (I0 : Book → (Bool × Want) → Int → Nat → Int → Option Int) (b : Book) (r_6 : Bool × Want) (t68 : Int) (next : Int → Option Int) : Int → Option Int := fun t69 =>
 bif decide (t69 < t68) then
 (bif decide (0 ≤ t69) then
 (bif decide (t69 < (↑(r_6.2.2.2.2.1.length) : Int)) then
 (bif r_6.2.2.1 != 1 then
 (I0 b r_6 (↑(r_6.2.2.2.2.1.length) : Int) N 0)
 else
 (ob (F.zx N b (r_6.2.2.2.2.1.getD t69.toNat bD).1) (Int.ofNat 0) fun r_9 =>
 bif decide (0 ≤ r_9) then
 (bif decide (r_9 < (↑(b.2.1.length) : Int)) then
 (bif (r_6.2.2.2.2.1.getD t69.toNat bD).2.1 != 2 then
 (ob (F.AY N (b.2.1.getD r_9.toNat az).2.2.2.2 r_6.2.2.2.1) false fun r_10 =>
 bif !r_10 then
 (some 8)
 else
 (next (i64.wrap (t69 + 1))))
 else
 (ob (F.Om N b (b.2.1.getD r_9.toNat az).2.2.2.2 r_6.2.2.2.1) false fun r_11 =>
 bif r_11 then
 (some 8)
 else
 (ob (F.xH N (b.2.1.getD r_9.toNat az).2.2.2.2 r_6.2.2.2.1) [] fun r_12 =>
 bif decide ((↑(r_12.length) : Int) > 8) then
 (some 5)
 else
 (next (i64.wrap (t69 + 1)))))) else none) else none)) else none) else none)
 else
 (I0 b r_6 (↑(r_6.2.2.2.2.1.length) : Int) N 0)
def FT (N : Nat) (b : Book) (r_6 : Bool × Want) (t68 : Int) : Nat → Int → Option Int := lp (fun _ => none) fun next => yN N (zD N) b r_6 t68 next
def ahU (N : Nat) (I1 : Book → (Bool × Want) → Int → Nat → Int → Option Int) (b : Book) (w : Want) : Option Int :=
 ob (F.Jv N b) false fun r =>
 bif !r then
 (some 1)
 else
 (ob (F.abv N w) false fun r_1 =>
 bif !r_1 then
 (some 2)
 else
 (ob (F.aca N b w) false fun r_2 =>
 bif !r_2 then
 (some 2)
 else
 (ob (F.Px N b w.1) (Int.ofNat 0) fun r_3 =>
 bif decide (r_3 ≥ 0) then
 (bif decide (0 ≤ r_3) then
 (bif decide (r_3 < (↑(b.2.2.2.1.length) : Int)) then
 (ob (F.NC N (b.2.2.2.1.getD r_3.toNat bC).1 w) false fun r_4 =>
 bif r_4 then
 (some 0)
 else
 (some 3)) else none) else none)
 else
 (bif decide (w.1 ≤ b.2.2.2.2) then
 (some 4)
 else
 (bif (↑(b.2.2.2.1.length) : Int) == 6 then
 (some 5)
 else
 (ob (F.f_1 N b.2.2.2.1 w) (false, Int.ofNat 0, Int.ofNat 0, [], [], [], []) fun r_5 =>
 bif r_5.1 then
 (some 6)
 else
 (ob (F.f_2 N b.2.2.2.1 r_5.2) (false, Int.ofNat 0, Int.ofNat 0, [], [], [], []) fun r_6 =>
 bif r_6.1 then
 (some 7)
 else
 (ob (F.Om N b r_6.2.2.2.1 r_6.2.2.2.1) false fun r_7 =>
 bif r_7 then
 (some 8)
 else
 (I1 b r_6 (↑(r_6.2.2.2.2.1.length) : Int) N 0)))))))))
def ada (N : Nat) (b : Book) (w : Want) : Option Int := ahU N (FT N) b w
def xn (N : Nat) (w : Want) (r_1 : Book) (t48 : Int) (t4c4 : Int) (out7c3a : List Part) (next : Int → (List aP) → Option (Book × Int)) : Int → (List aP) → Option (Book × Int) := fun t49 out7c1a =>
 bif decide (t49 < t48) then
 (bif decide (0 ≤ t49) then
 (bif decide (t49 < (↑(w.2.2.2.1.length) : Int)) then
 (ob (F.zx N (r_1.1, out7c1a, r_1.2.2.1, out7c3a, w.1) (w.2.2.2.1.getD t49.toNat bD).1) (Int.ofNat 0) fun r_8 =>
 bif decide (0 ≤ r_8) then
 (bif decide (r_8 < (↑out7c1a.length : Int)) then
 (bif (w.2.2.2.1.getD t49.toNat bD).2.1 == 1 then
 (let out7c1as_8 : List aP := out7c1a.set r_8.toNat ((out7c1a.getD r_8.toNat az).1, (out7c1a.getD r_8.toNat az).2.1, i64.wrap ((out7c1a.getD r_8.toNat az).2.2.1 - (w.2.2.2.1.getD t49.toNat bD).2.2), (out7c1a.getD r_8.toNat az).2.2.2)
 bif (w.2.2.2.1.getD t49.toNat bD).2.1 != 1 then
 (let out7c1as_9 : List aP := out7c1as_8.set r_8.toNat ((out7c1as_8.getD r_8.toNat az).1, (out7c1as_8.getD r_8.toNat az).2.1, (out7c1as_8.getD r_8.toNat az).2.2.1, (out7c1as_8.getD r_8.toNat az).2.2.2.1, [])
 ob (F.xH N (out7c1as_8.getD r_8.toNat az).2.2.2.2 w.2.2.1) [] fun r_9 =>
 bif decide (r_8 = r_8) && decide (([(5, 4)], 91).1 = [(5, 4)]) then
 (let out7c1as_10 : List aP := out7c1as_9.set r_8.toNat ((out7c1as_9.getD r_8.toNat az).1, (out7c1as_9.getD r_8.toNat az).2.1, (out7c1as_9.getD r_8.toNat az).2.2.1, (out7c1as_9.getD r_8.toNat az).2.2.2.1, r_9)
 next (i64.wrap (t49 + 1)) out7c1as_10) else none)
 else
 (next (i64.wrap (t49 + 1)) out7c1as_8))
 else
 (bif (w.2.2.2.1.getD t49.toNat bD).2.1 == 2 then
 (let out7c1as_11 : List aP := out7c1a.set r_8.toNat ((out7c1a.getD r_8.toNat az).1, (out7c1a.getD r_8.toNat az).2.1, (out7c1a.getD r_8.toNat az).2.2.1, i64.wrap ((out7c1a.getD r_8.toNat az).2.2.2.1 + (w.2.2.2.1.getD t49.toNat bD).2.2), (out7c1a.getD r_8.toNat az).2.2.2.2)
 bif (w.2.2.2.1.getD t49.toNat bD).2.1 != 1 then
 (let out7c1as_12 : List aP := out7c1as_11.set r_8.toNat ((out7c1as_11.getD r_8.toNat az).1, (out7c1as_11.getD r_8.toNat az).2.1, (out7c1as_11.getD r_8.toNat az).2.2.1, (out7c1as_11.getD r_8.toNat az).2.2.2.1, [])
 ob (F.xH N (out7c1as_11.getD r_8.toNat az).2.2.2.2 w.2.2.1) [] fun r_10 =>
 bif decide (r_8 = r_8) && decide (([(5, 4)], 91).1 = [(5, 4)]) then
 (let out7c1as_13 : List aP := out7c1as_12.set r_8.toNat ((out7c1as_12.getD r_8.toNat az).1, (out7c1as_12.getD r_8.toNat az).2.1, (out7c1as_12.getD r_8.toNat az).2.2.1, (out7c1as_12.getD r_8.toNat az).2.2.2.1, r_10)
 next (i64.wrap (t49 + 1)) out7c1as_13) else none)
 else
 (next (i64.wrap (t49 + 1)) out7c1as_11))
 else
 (bif (w.2.2.2.1.getD t49.toNat bD).2.1 != 1 then
 (let out7c1as_14 : List aP := out7c1a.set r_8.toNat ((out7c1a.getD r_8.toNat az).1, (out7c1a.getD r_8.toNat az).2.1, (out7c1a.getD r_8.toNat az).2.2.1, (out7c1a.getD r_8.toNat az).2.2.2.1, [])
 ob (F.xH N (out7c1a.getD r_8.toNat az).2.2.2.2 w.2.2.1) [] fun r_11 =>
 bif decide (r_8 = r_8) && decide (([(5, 4)], 91).1 = [(5, 4)]) then
 (let out7c1as_15 : List aP := out7c1as_14.set r_8.toNat ((out7c1as_14.getD r_8.toNat az).1, (out7c1as_14.getD r_8.toNat az).2.1, (out7c1as_14.getD r_8.toNat az).2.2.1, (out7c1as_14.getD r_8.toNat az).2.2.2.1, r_11)
 next (i64.wrap (t49 + 1)) out7c1as_15) else none)
 else
 (next (i64.wrap (t49 + 1)) out7c1a)))) else none) else none) else none) else none)
 else
 (some ((r_1.1, out7c1a, r_1.2.2.1, out7c3a, w.1), 0))
def IK (N : Nat) (w : Want) (r_1 : Book) (t48 : Int) (t4c4 : Int) (out7c3a : List Part) : Nat → Int → (List aP) → Option (Book × Int) := lp (fun _ _ => none) fun next => xn N w r_1 t48 t4c4 out7c3a next
def afU (N : Nat) (I0 : Want → Book → Int → Int → (List Part) → Nat → Int → (List aP) → Option (Book × Int)) (b : Book) (w : Want) : Option (Book × Int) :=
 ob (F.ada N b w) (Int.ofNat 0) fun r =>
 bif r == 1 then
 (some (([], [], [], [], 0), 1))
 else
 (ob (F.Su N b) dB fun r_1 =>
 bif decide (r ≥ 5) then
 (bif r != 0 then
 (some ((r_1.1, r_1.2.1, r_1.2.2.1, r_1.2.2.2.1, w.1), r))
 else
 (ob (F.Px N b w.1) (Int.ofNat 0) fun r_2 =>
 bif decide (r_2 ≥ 0) then
 (some ((r_1.1, r_1.2.1, r_1.2.2.1, r_1.2.2.2.1, w.1), r))
 else
 (ob (F.UC N w) zi fun r_3 =>
 bif decide ((List.length r_1.2.2.2.1 + [(r_3, false)].length) * 120 ≤ lim) then
 (I0 w r_1 (↑(w.2.2.2.1.length) : Int) 0 (r_1.2.2.2.1 ++ [(r_3, false)]) N 0 r_1.2.1) else none)))
 else
 (bif r != 0 then
 (some (r_1, r))
 else
 (ob (F.Px N b w.1) (Int.ofNat 0) fun r_12 =>
 bif decide (r_12 ≥ 0) then
 (some (r_1, r))
 else
 (ob (F.UC N w) zi fun r_13 =>
 bif decide ((List.length r_1.2.2.2.1 + [(r_13, false)].length) * 120 ≤ lim) then
 (I0 w r_1 (↑(w.2.2.2.1.length) : Int) 0 (r_1.2.2.2.1 ++ [(r_13, false)]) N 0 r_1.2.1) else none))))
def Ua (N : Nat) (b : Book) (w : Want) : Option (Book × Int) := afU N (IK N) b w
def zS (N : Nat) (s : Book) (b : Book) (code : Int) : Option (Txt × Book) :=
 bif code != 1 then
 (ob (F.strconv_Itoa N code) [] fun r =>
 bif decide ([99, 111, 100, 101, 32].length + List.length r ≤ lim) then
 (some ([99, 111, 100, 101, 32] ++ r, b)) else none)
 else
 (ob (F.strconv_Itoa N code) [] fun r_1 =>
 bif decide ([99, 111, 100, 101, 32].length + List.length r_1 ≤ lim) then
 (some ([99, 111, 100, 101, 32] ++ r_1, s)) else none)
def adC (N : Nat) (b : Book) (number : Int) : Option (Book × Int) :=
 ob (F.Jv N b) false fun r =>
 bif !r then
 (some (([], [], [], [], 0), 1))
 else
 (ob (F.Su N b) dB fun r_1 =>
 ob (F.Px N b number) (Int.ofNat 0) fun r_2 =>
 bif decide (r_2 < 0) then
 (some (r_1, 3))
 else
 (bif decide (0 ≤ r_2) then
 (bif decide (r_2 < (↑(r_1.2.2.2.1.length) : Int)) then
 (let t1835as : List Part := List.set r_1.2.2.2.1 r_2.toNat ((r_1.2.2.2.1.getD r_2.toNat bC).1, true)
 some ((r_1.1, r_1.2.1, r_1.2.2.1, t1835as, r_1.2.2.2.2), 0)) else none) else none))
def yR (N : Nat) (moved : Int) (done : Bool) (r_1 : Book) (t8c4 : Int) (w12c0 : Int) (w12c1 : Int) (w12c2 : List Txt) (w12c3 : List Use) (w12c4 : List Txt) (w12c5 : List Txt) (t74 : Int) (t8c0a : List Foe) (t8c1a : List aP) (t8c2a : List Txt) (t8c3a : List Part) (out10c3a_1 : List Part) (next : Int → (List aP) → Option (Book × Int)) : Int → (List aP) → Option (Book × Int) := fun t75 out10c1a_1 =>
 bif decide (t75 < t74) then
 (bif decide (0 ≤ t75) then
 (bif decide (t75 < (↑(w12c3.length) : Int)) then
 (ob (F.zx N (r_1.1, out10c1a_1, r_1.2.2.1, out10c3a_1, r_1.2.2.2.2) (w12c3.getD t75.toNat bD).1) (Int.ofNat 0) fun r_4 =>
 bif decide (0 ≤ r_4) then
 (bif decide (r_4 < (↑out10c1a_1.length : Int)) then
 (bif (w12c3.getD t75.toNat bD).2.1 == 1 then
 (let out10c1as_7 : List aP := out10c1a_1.set r_4.toNat ((out10c1a_1.getD r_4.toNat az).1, (out10c1a_1.getD r_4.toNat az).2.1, i64.wrap ((out10c1a_1.getD r_4.toNat az).2.2.1 + i64.wrap ((w12c3.getD t75.toNat bD).2.2 - moved)), (out10c1a_1.getD r_4.toNat az).2.2.2)
 let out10c1as_8 : List aP := out10c1as_7.set r_4.toNat ((out10c1as_7.getD r_4.toNat az).1, (out10c1as_7.getD r_4.toNat az).2.1, (out10c1as_7.getD r_4.toNat az).2.2.1, i64.wrap ((out10c1as_7.getD r_4.toNat az).2.2.2.1 - moved), (out10c1as_7.getD r_4.toNat az).2.2.2.2)
 bif w12c1 == 2 then
 (bif done then
 (let out10c1as_9 : List aP := out10c1as_8.set r_4.toNat ((out10c1as_8.getD r_4.toNat az).1, (out10c1as_8.getD r_4.toNat az).2.1, (out10c1as_8.getD r_4.toNat az).2.2.1, (out10c1as_8.getD r_4.toNat az).2.2.2.1, [])
 next (i64.wrap (t75 + 1)) out10c1as_9)
 else
 (next (i64.wrap (t75 + 1)) out10c1as_8))
 else
 (next (i64.wrap (t75 + 1)) out10c1as_8))
 else
 (bif (w12c3.getD t75.toNat bD).2.1 == 2 then
 (let out10c1as_10 : List aP := out10c1a_1.set r_4.toNat ((out10c1a_1.getD r_4.toNat az).1, (out10c1a_1.getD r_4.toNat az).2.1, i64.wrap ((out10c1a_1.getD r_4.toNat az).2.2.1 + moved), (out10c1a_1.getD r_4.toNat az).2.2.2)
 let out10c1as_11 : List aP := out10c1as_10.set r_4.toNat ((out10c1as_10.getD r_4.toNat az).1, (out10c1as_10.getD r_4.toNat az).2.1, (out10c1as_10.getD r_4.toNat az).2.2.1, i64.wrap ((out10c1as_10.getD r_4.toNat az).2.2.2.1 - i64.wrap ((w12c3.getD t75.toNat bD).2.2 - moved)), (out10c1as_10.getD r_4.toNat az).2.2.2.2)
 bif w12c1 == 2 then
 (bif done then
 (let out10c1as_12 : List aP := out10c1as_11.set r_4.toNat ((out10c1as_11.getD r_4.toNat az).1, (out10c1as_11.getD r_4.toNat az).2.1, (out10c1as_11.getD r_4.toNat az).2.2.1, (out10c1as_11.getD r_4.toNat az).2.2.2.1, [])
 next (i64.wrap (t75 + 1)) out10c1as_12)
 else
 (next (i64.wrap (t75 + 1)) out10c1as_11))
 else
 (next (i64.wrap (t75 + 1)) out10c1as_11))
 else
 (bif w12c1 == 2 then
 (bif done then
 (let out10c1as_13 : List aP := out10c1a_1.set r_4.toNat ((out10c1a_1.getD r_4.toNat az).1, (out10c1a_1.getD r_4.toNat az).2.1, (out10c1a_1.getD r_4.toNat az).2.2.1, (out10c1a_1.getD r_4.toNat az).2.2.2.1, [])
 next (i64.wrap (t75 + 1)) out10c1as_13)
 else
 (next (i64.wrap (t75 + 1)) out10c1a_1))
 else
 (next (i64.wrap (t75 + 1)) out10c1a_1)))) else none) else none) else none) else none)
 else
 (some ((r_1.1, out10c1a_1, r_1.2.2.1, out10c3a_1, r_1.2.2.2.2), 0))
def N8 (N : Nat) (moved : Int) (done : Bool) (r_1 : Book) (t8c4 : Int) (w12c0 : Int) (w12c1 : Int) (w12c2 : List Txt) (w12c3 : List Use) (w12c4 : List Txt) (w12c5 : List Txt) (t74 : Int) (t8c0a : List Foe) (t8c1a : List aP) (t8c2a : List Txt) (t8c3a : List Part) (out10c3a_1 : List Part) : Nat → Int → (List aP) → Option (Book × Int) := lp (fun _ _ => none) fun next => yR N moved done r_1 t8c4 w12c0 w12c1 w12c2 w12c3 w12c4 w12c5 t74 t8c0a t8c1a t8c2a t8c3a out10c3a_1 next
def ET (N : Nat) (I0 : Int → Bool → Book → Int → Int → Int → (List Txt) → (List Use) → (List Txt) → (List Txt) → Int → (List Foe) → (List aP) → (List Txt) → (List Part) → (List Part) → Nat → Int → (List aP) → Option (Book × Int)) (b : Book) (moved : Int) (done : Bool) (r_1 : Book) (r_2 : Int) (t40 : List Use) (t41 : Int) (t8c4 : Int) (w12c0 : Int) (w12c1 : Int) (w12c2 : List Txt) (w12c3 : List Use) (w12c4 : List Txt) (w12c5 : List Txt) (next : Int → Option (Book × Int)) : Int → Option (Book × Int) := fun t42 =>
 bif decide (t42 < t41) then
 (bif decide (0 ≤ t42) then
 (bif decide (t42 < (↑(t40.length) : Int)) then
 (bif (t40.getD t42.toNat bD).2.1 != 3 then
 (bif decide (moved > (t40.getD t42.toNat bD).2.2) then
 (some (r_1, 2))
 else
 (next (i64.wrap (t42 + 1))))
 else
 (next (i64.wrap (t42 + 1)))) else none) else none)
 else
 (bif decide (0 ≤ r_2) then
 (bif decide (r_2 < (↑(b.2.2.2.1.length) : Int)) then
 (bif !(b.2.2.2.1.getD r_2.toNat bC).2 then
 (some (r_1, 12))
 else
 (bif decide (0 ≤ r_2) then
 (bif decide (r_2 < (↑(r_1.2.2.2.1.length) : Int)) then
 (bif decide (i64.wrap (r_2 + 1) = r_2 + 1) then
 (I0 moved done r_1 t8c4 w12c0 w12c1 w12c2 w12c3 w12c4 w12c5 (↑(w12c3.length) : Int) [] [] [] [] (List.eraseIdx r_1.2.2.2.1 r_2.toNat) N 0 r_1.2.1) else none) else none) else none)) else none) else none)
def Uk (N : Nat) (b : Book) (moved : Int) (done : Bool) (r_1 : Book) (r_2 : Int) (t40 : List Use) (t41 : Int) (t8c4 : Int) (w12c0 : Int) (w12c1 : Int) (w12c2 : List Txt) (w12c3 : List Use) (w12c4 : List Txt) (w12c5 : List Txt) : Nat → Int → Option (Book × Int) := lp (fun _ => none) fun next => ET N (N8 N) b moved done r_1 r_2 t40 t41 t8c4 w12c0 w12c1 w12c2 w12c3 w12c4 w12c5 next
def acU (N : Nat) (I1 : Book → Int → Bool → Book → Int → (List Use) → Int → Int → Int → Int → (List Txt) → (List Use) → (List Txt) → (List Txt) → Nat → Int → Option (Book × Int)) (b : Book) (number : Int) (moved : Int) (done : Bool) : Option (Book × Int) :=
 ob (F.Jv N b) false fun r =>
 bif !r then
 (some (([], [], [], [], 0), 1))
 else
 (ob (F.Su N b) dB fun r_1 =>
 ob (F.Px N b number) (Int.ofNat 0) fun r_2 =>
 bif decide (r_2 < 0) then
 (some (r_1, 3))
 else
 (bif decide (0 ≤ r_2) then
 (bif decide (r_2 < (↑(b.2.2.2.1.length) : Int)) then
 (bif decide (moved < 0) then
 (some (r_1, 2))
 else
 (I1 b moved done r_1 r_2 ((b.2.2.2.1.getD r_2.toNat bC).1.2.2.2.1) (↑(List.length (b.2.2.2.1.getD r_2.toNat bC).1.2.2.2.1) : Int) 0 ((b.2.2.2.1.getD r_2.toNat bC).1.1) ((b.2.2.2.1.getD r_2.toNat bC).1.2.1) ((b.2.2.2.1.getD r_2.toNat bC).1.2.2.1) ((b.2.2.2.1.getD r_2.toNat bC).1.2.2.2.1) ((b.2.2.2.1.getD r_2.toNat bC).1.2.2.2.2.1) ((b.2.2.2.1.getD r_2.toNat bC).1.2.2.2.2.2) N 0)) else none) else none))
def abZ (N : Nat) (b : Book) (number : Int) (moved : Int) (done : Bool) : Option (Book × Int) := acU N (Uk N) b number moved done
def DF (N : Nat) (l : List Txt) : Option Txt :=
 bif (↑l.length : Int) == 0 then
 (some [45])
 else
 (ob (F.strings_Join N l [44]) [] fun r =>
 some r)
def Ew (N : Nat) (b : Book) (valve : Txt) (t14 : Int) (next : Int → (List Int) → Option (List Int)) : Int → (List Int) → Option (List Int) := fun t15 out5a =>
 bif decide (t15 < t14) then
 (bif decide (0 ≤ t15) then
 (bif decide (t15 < (↑(b.2.2.2.1.length) : Int)) then
 (ob (F.yl N (b.2.2.2.1.getD t15.toNat bC).1.2.2.2.2.2 valve) false fun r_1 =>
 bif r_1 then
 (bif decide ((out5a.length + [(b.2.2.2.1.getD t15.toNat bC).1.1].length) * 8 ≤ lim) then
 (next (i64.wrap (t15 + 1)) (out5a ++ [(b.2.2.2.1.getD t15.toNat bC).1.1])) else none)
 else
 (next (i64.wrap (t15 + 1)) out5a)) else none) else none)
 else
 (some out5a)
def Um (N : Nat) (b : Book) (valve : Txt) (t14 : Int) : Nat → Int → (List Int) → Option (List Int) := lp (fun _ _ => none) fun next => Ew N b valve t14 next
def ahx (N : Nat) (I0 : Book → Txt → Int → Nat → Int → (List Int) → Option (List Int)) (b : Book) (valve : Txt) : Option (List Int) :=
 ob (F.Jv N b) false fun r =>
 bif !r then
 (some [])
 else
 (I0 b valve (↑(b.2.2.2.1.length) : Int) N 0 [])
def ajK (N : Nat) (b : Book) (valve : Txt) : Option (List Int) := ahx N (Um N) b valve
def EZ (N : Nat) (b : Book) (valve : Txt) (t12 : Int) (next : Int → Option Int) : Int → Option Int := fun t13 =>
 bif decide (t13 < t12) then
 (bif decide (0 ≤ t13) then
 (bif decide (t13 < (↑(b.2.2.2.1.length) : Int)) then
 (bif !(b.2.2.2.1.getD t13.toNat bC).2 then
 (ob (F.yl N (b.2.2.2.1.getD t13.toNat bC).1.2.2.2.2.1 valve) false fun r_1 =>
 bif r_1 then
 (some ((b.2.2.2.1.getD t13.toNat bC).1.1))
 else
 (next (i64.wrap (t13 + 1))))
 else
 (next (i64.wrap (t13 + 1)))) else none) else none)
 else
 (some 0)
def VO (N : Nat) (b : Book) (valve : Txt) (t12 : Int) : Nat → Int → Option Int := lp (fun _ => none) fun next => EZ N b valve t12 next
def ag3 (N : Nat) (I0 : Book → Txt → Int → Nat → Int → Option Int) (b : Book) (valve : Txt) : Option Int :=
 ob (F.Jv N b) false fun r =>
 bif !r then
 (some 0)
 else
 (I0 b valve (↑(b.2.2.2.1.length) : Int) N 0)
def agO (N : Nat) (b : Book) (valve : Txt) : Option Int := ag3 N (VO N) b valve
def Fj (N : Nat) (s : Book) (r : List Txt) (r_45 : List Int) (t330 : Int) (next : Int → (List Txt) → Option (Txt × Book)) : Int → (List Txt) → Option (Txt × Book) := fun t331 l13a =>
 bif decide (t331 < t330) then
 (bif decide (0 ≤ t331) then
 (bif decide (t331 < (↑(r_45.length) : Int)) then
 (ob (F.strconv_Itoa N (r_45.getD t331.toNat (Int.ofNat 0))) [] fun r_46 =>
 bif decide ((l13a.length + [r_46].length) * 16 ≤ lim) then
 (next (i64.wrap (t331 + 1)) (l13a ++ [r_46])) else none) else none) else none)
 else
 (bif decide (1 < (↑(r.length) : Int)) then
 (ob (F.agO N s (r.getD (Int.toNat 1) [])) (Int.ofNat 0) fun r_47 =>
 ob (F.strconv_Itoa N r_47) [] fun r_48 =>
 bif decide (List.length r_48 + [32].length ≤ lim) then
 (ob (F.DF N l13a) [] fun r_49 =>
 bif decide (List.length (r_48 ++ [32]) + List.length r_49 ≤ lim) then
 (some (r_48 ++ [32] ++ r_49, s)) else none) else none) else none)
def NQ (N : Nat) (s : Book) (r : List Txt) (r_45 : List Int) (t330 : Int) : Nat → Int → (List Txt) → Option (Txt × Book) := lp (fun _ _ => none) fun next => Fj N s r r_45 t330 next
def ae0 (N : Nat) (I0 : Book → (List Txt) → (List Int) → Int → Nat → Int → (List Txt) → Option (Txt × Book)) (s : Book) (line : Txt) : Option (Txt × Book) :=
 ob (F.strings_Split N line [32]) [] fun r =>
 ob (F.Su N s) dB fun r_1 =>
 bif decide (0 < (↑(r.length) : Int)) then
 (bif r.getD (Int.toNat 0) [] == [102, 111, 101] && (↑(r.length) : Int) == 3 then
 (bif decide (1 < (↑(r.length) : Int)) then
 (bif decide (2 < (↑(r.length) : Int)) then
 (bif decide ((List.length r_1.1 + [(r.getD (Int.toNat 1) [], r.getD (Int.toNat 2) [])].length) * 32 ≤ lim) then
 (ob (F.UX N s (r_1.1 ++ [(r.getD (Int.toNat 1) [], r.getD (Int.toNat 2) [])], r_1.2)) ([], [], [], [], [], Int.ofNat 0) fun r_2 =>
 some r_2) else none) else none) else none)
 else
 (bif decide (0 < (↑(r.length) : Int)) then
 (bif r.getD (Int.toNat 0) [] == [115, 112, 111, 116] && (↑(r.length) : Int) == 5 then
 (ob (F.dh N (↑(r_1.2.1.length) : Int) r_1 r) (Int.ofNat 0) fun r_3 =>
 bif decide (3 < (↑(r.length) : Int)) then
 (ob (F.uT N (r.getD (Int.toNat 3) [])) (Int.ofNat 0) fun r_4 =>
 bif decide (1 < (↑(r.length) : Int)) then
 (bif decide (2 < (↑(r.length) : Int)) then
 (ob (F.uT N (r.getD (Int.toNat 2) [])) (Int.ofNat 0) fun r_5 =>
 bif decide (4 < (↑(r.length) : Int)) then
 (ob (F.mO N (r.getD (Int.toNat 4) [])) [] fun r_6 =>
 ob (F.bW N r_1.2.1 r_3 [(r.getD (Int.toNat 1) [], r_5, r_4, r_4, r_6)]) [] fun r_7 =>
 ob (F.UX N s (r_1.1, r_7, r_1.2.2)) ([], [], [], [], [], Int.ofNat 0) fun r_8 =>
 some r_8) else none) else none) else none) else none)
 else
 (bif decide (0 < (↑(r.length) : Int)) then
 (bif r.getD (Int.toNat 0) [] == [118, 97, 108, 118, 101, 115] && (↑(r.length) : Int) == 2 then
 (bif decide (1 < (↑(r.length) : Int)) then
 (ob (F.mO N (r.getD (Int.toNat 1) [])) [] fun r_9 =>
 ob (F.UX N s (r_1.1, r_1.2.1, r_9, r_1.2.2.2)) ([], [], [], [], [], Int.ofNat 0) fun r_10 =>
 some r_10) else none)
 else
 (bif decide (0 < (↑(r.length) : Int)) then
 (bif r.getD (Int.toNat 0) [] == [109, 111, 118, 101] && (↑(r.length) : Int) == 6 then
 (bif decide (2 < (↑(r.length) : Int)) then
 (ob (F.uT N (r.getD (Int.toNat 2) [])) (Int.ofNat 0) fun r_11 =>
 bif decide (1 < (↑(r.length) : Int)) then
 (ob (F.mO N (r.getD (Int.toNat 1) [])) [] fun r_12 =>
 bif decide (3 < (↑(r.length) : Int)) then
 (ob (F.FY N (r.getD (Int.toNat 3) [])) [] fun r_13 =>
 bif decide (4 < (↑(r.length) : Int)) then
 (ob (F.mO N (r.getD (Int.toNat 4) [])) [] fun r_14 =>
 bif decide (5 < (↑(r.length) : Int)) then
 (ob (F.mO N (r.getD (Int.toNat 5) [])) [] fun r_15 =>
 ob (F.Ua N s (r_11, 1, r_12, r_13, r_14, r_15)) (dB, Int.ofNat 0) fun r_16 =>
 ob (F.zS N s r_16.1 r_16.2) ([], [], [], [], [], Int.ofNat 0) fun r_17 =>
 some r_17) else none) else none) else none) else none) else none)
 else
 (bif decide (0 < (↑(r.length) : Int)) then
 (bif decide (0 < (↑(r.length) : Int)) then
 (bif (r.getD (Int.toNat 0) [] == [99, 108, 101, 97, 110] || r.getD (Int.toNat 0) [] == [112, 101, 114, 109, 105, 116]) && (↑(r.length) : Int) == 5 then
 (bif decide (0 < (↑(r.length) : Int)) then
 (bif r.getD (Int.toNat 0) [] == [112, 101, 114, 109, 105, 116] then
 (bif decide (1 < (↑(r.length) : Int)) then
 (ob (F.uT N (r.getD (Int.toNat 1) [])) (Int.ofNat 0) fun r_18 =>
 bif decide (2 < (↑(r.length) : Int)) then
 (ob (F.FY N (r.getD (Int.toNat 2) [])) [] fun r_19 =>
 bif decide (3 < (↑(r.length) : Int)) then
 (ob (F.mO N (r.getD (Int.toNat 3) [])) [] fun r_20 =>
 bif decide (4 < (↑(r.length) : Int)) then
 (ob (F.mO N (r.getD (Int.toNat 4) [])) [] fun r_21 =>
 ob (F.Ua N s (r_18, 3, [], r_19, r_20, r_21)) (dB, Int.ofNat 0) fun r_22 =>
 ob (F.zS N s r_22.1 r_22.2) ([], [], [], [], [], Int.ofNat 0) fun r_23 =>
 some r_23) else none) else none) else none) else none)
 else
 (bif decide (1 < (↑(r.length) : Int)) then
 (ob (F.uT N (r.getD (Int.toNat 1) [])) (Int.ofNat 0) fun r_24 =>
 bif decide (2 < (↑(r.length) : Int)) then
 (ob (F.FY N (r.getD (Int.toNat 2) [])) [] fun r_25 =>
 bif decide (3 < (↑(r.length) : Int)) then
 (ob (F.mO N (r.getD (Int.toNat 3) [])) [] fun r_26 =>
 bif decide (4 < (↑(r.length) : Int)) then
 (ob (F.mO N (r.getD (Int.toNat 4) [])) [] fun r_27 =>
 ob (F.Ua N s (r_24, 2, [], r_25, r_26, r_27)) (dB, Int.ofNat 0) fun r_28 =>
 ob (F.zS N s r_28.1 r_28.2) ([], [], [], [], [], Int.ofNat 0) fun r_29 =>
 some r_29) else none) else none) else none) else none)) else none)
 else
 (bif decide (0 < (↑(r.length) : Int)) then
 (bif r.getD (Int.toNat 0) [] == [115, 116, 111, 112] && (↑(r.length) : Int) == 2 then
 (bif decide (1 < (↑(r.length) : Int)) then
 (ob (F.uT N (r.getD (Int.toNat 1) [])) (Int.ofNat 0) fun r_30 =>
 ob (F.adC N s r_30) (dB, Int.ofNat 0) fun r_31 =>
 ob (F.zS N s r_31.1 r_31.2) ([], [], [], [], [], Int.ofNat 0) fun r_32 =>
 some r_32) else none)
 else
 (bif decide (0 < (↑(r.length) : Int)) then
 (bif r.getD (Int.toNat 0) [] == [111, 118, 101, 114] && (↑(r.length) : Int) == 3 then
 (bif decide (1 < (↑(r.length) : Int)) then
 (ob (F.uT N (r.getD (Int.toNat 1) [])) (Int.ofNat 0) fun r_33 =>
 bif decide (2 < (↑(r.length) : Int)) then
 (ob (F.uT N (r.getD (Int.toNat 2) [])) (Int.ofNat 0) fun r_34 =>
 ob (F.abZ N s r_33 r_34 false) (dB, Int.ofNat 0) fun r_35 =>
 ob (F.zS N s r_35.1 r_35.2) ([], [], [], [], [], Int.ofNat 0) fun r_36 =>
 some r_36) else none) else none)
 else
 (bif decide (0 < (↑(r.length) : Int)) then
 (bif r.getD (Int.toNat 0) [] == [99, 108, 101, 97, 110, 101, 100] && (↑(r.length) : Int) == 2 then
 (bif decide (1 < (↑(r.length) : Int)) then
 (ob (F.uT N (r.getD (Int.toNat 1) [])) (Int.ofNat 0) fun r_37 =>
 ob (F.abZ N s r_37 0 true) (dB, Int.ofNat 0) fun r_38 =>
 ob (F.zS N s r_38.1 r_38.2) ([], [], [], [], [], Int.ofNat 0) fun r_39 =>
 some r_39) else none)
 else
 (bif decide (0 < (↑(r.length) : Int)) then
 (bif r.getD (Int.toNat 0) [] == [115, 104, 111, 119] && (↑(r.length) : Int) == 2 then
 (bif decide (1 < (↑(r.length) : Int)) then
 (ob (F.zx N r_1 (r.getD (Int.toNat 1) [])) (Int.ofNat 0) fun r_40 =>
 bif decide (r_40 < 0) then
 (some ([110, 111, 110, 101], s))
 else
 (bif decide (0 ≤ r_40) then
 (bif decide (r_40 < (↑(r_1.2.1.length) : Int)) then
 (ob (F.strconv_Itoa N (r_1.2.1.getD r_40.toNat az).2.2.1) [] fun r_41 =>
 bif decide (List.length r_41 + [45].length ≤ lim) then
 (ob (F.strconv_Itoa N (r_1.2.1.getD r_40.toNat az).2.2.2.1) [] fun r_42 =>
 bif decide (List.length (r_41 ++ [45]) + List.length r_42 ≤ lim) then
 (bif decide (List.length (r_41 ++ [45] ++ r_42) + [32, 111, 102, 32].length ≤ lim) then
 (ob (F.strconv_Itoa N (r_1.2.1.getD r_40.toNat az).2.1) [] fun r_43 =>
 bif decide (List.length (r_41 ++ [45] ++ r_42 ++ [32, 111, 102, 32]) + List.length r_43 ≤ lim) then
 (bif decide (List.length (r_41 ++ [45] ++ r_42 ++ [32, 111, 102, 32] ++ r_43) + [32].length ≤ lim) then
 (ob (F.DF N (r_1.2.1.getD r_40.toNat az).2.2.2.2) [] fun r_44 =>
 bif decide (List.length (r_41 ++ [45] ++ r_42 ++ [32, 111, 102, 32] ++ r_43 ++ [32]) + List.length r_44 ≤ lim) then
 (some (r_41 ++ [45] ++ r_42 ++ [32, 111, 102, 32] ++ r_43 ++ [32] ++ r_44, s)) else none) else none) else none) else none) else none) else none) else none) else none)) else none)
 else
 (bif decide (0 < (↑(r.length) : Int)) then
 (bif r.getD (Int.toNat 0) [] == [118, 97, 108, 118, 101] && (↑(r.length) : Int) == 2 then
 (bif decide (1 < (↑(r.length) : Int)) then
 (ob (F.ajK N s (r.getD (Int.toNat 1) [])) [] fun r_45 =>
 I0 s r r_45 (↑(r_45.length) : Int) N 0 []) else none)
 else
 (some ([98, 97, 100], s))) else none)) else none)) else none)) else none)) else none)) else none) else none)) else none)) else none)) else none)) else none
def acG (N : Nat) (s : Book) (line : Txt) : Option (Txt × Book) := ae0 N (NQ N) s line
def uA (N : Nat) (t32 : List Txt) (t33 : Int) (next : Txt → Int → (List Foe) → (List aP) → (List Txt) → (List Part) → Int → Option Txt) : Txt → Int → (List Foe) → (List aP) → (List Txt) → (List Part) → Int → Option Txt := fun out5 t34 t31c0 t31c1 t31c2 t31c3 t31c4 =>
 bif decide (t34 < t33) then
 (bif decide (0 ≤ t34) then
 (bif decide (t34 < (↑(t32.length) : Int)) then
 (ob (F.acG N (t31c0, t31c1, t31c2, t31c3, t31c4) (t32.getD t34.toNat [])) ([], [], [], [], [], Int.ofNat 0) fun r_1 =>
 bif decide (List.length r_1.1 + [10].length ≤ lim) then
 (bif decide (List.length out5 + List.length (r_1.1 ++ [10]) ≤ lim) then
 (next (out5 ++ (r_1.1 ++ [10])) (i64.wrap (t34 + 1)) r_1.2.1 r_1.2.2.1 r_1.2.2.2.1 r_1.2.2.2.2.1 r_1.2.2.2.2.2) else none) else none) else none) else none)
 else
 (some out5)
def vO (N : Nat) (t32 : List Txt) (t33 : Int) : Nat → Txt → Int → (List Foe) → (List aP) → (List Txt) → (List Part) → Int → Option Txt := lp (fun _ _ _ _ _ _ _ => none) fun next => uA N t32 t33 next
def aiB (N : Nat) (I0 : (List Txt) → Int → Nat → Txt → Int → (List Foe) → (List aP) → (List Txt) → (List Part) → Int → Option Txt) (text : Txt) : Option Txt :=
 ob (F.strings_Split N text [10]) [] fun r =>
 bif decide (0 ≤ i64.wrap ((↑(r.length) : Int) - 1)) then
 (bif decide (i64.wrap ((↑(r.length) : Int) - 1) < (↑(r.length) : Int)) then
 (bif r.getD (i64.wrap ((↑(r.length) : Int) - 1)).toNat [] == [] then
 (bif decide (0 ≤ i64.wrap ((↑(r.length) : Int) - 1)) then
 (bif decide (i64.wrap ((↑(r.length) : Int) - 1) ≤ (↑(r.length) : Int)) then
 (bif decide ((↑text.length : Int) > 10000) then
 (some [116, 111, 111, 32, 108, 111, 110, 103, 10])
 else
 (bif decide ((↑(List.drop (Int.toNat 0) (List.take (i64.wrap ((↑(r.length) : Int) - 1)).toNat r)).length : Int) > 200) then
 (some [116, 111, 111, 32, 108, 111, 110, 103, 10])
 else
 (I0 (List.drop (Int.toNat 0) (List.take (i64.wrap ((↑(r.length) : Int) - 1)).toNat r)) (↑(List.drop (Int.toNat 0) (List.take (i64.wrap ((↑(r.length) : Int) - 1)).toNat r)).length : Int) N [] 0 [] [] [] [] 0))) else none) else none)
 else
 (bif decide ((↑text.length : Int) > 10000) then
 (some [116, 111, 111, 32, 108, 111, 110, 103, 10])
 else
 (bif decide ((↑(r.length) : Int) > 200) then
 (some [116, 111, 111, 32, 108, 111, 110, 103, 10])
 else
 (I0 r (↑(r.length) : Int) N [] 0 [] [] [] [] 0)))) else none) else none
def afv (N : Nat) (text : Txt) : Option Txt := aiB N (vO N) text
def abU (N : Nat) (aText : Txt) : Option Bool :=
 bif decide ((↑aText.length : Int) > 1048576) then
 (some true)
 else
 (ob (F.akz N aText) [] fun r =>
 ob (F.afv N aText) [] fun r_1 =>
 bif !r_1 == r then
 (some false)
 else
 (some true))
end
end Go.MC.F

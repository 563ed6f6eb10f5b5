/- Part 3 of the texts of the claim FnLinesCardSaid: an interpreter of the translated code over data, proved sound; the contracts of the functions; the same in plain words. -/
import Derived.Test.YtaihjhaabnfenaaGreatDoormFnLinesCardSaid2
set_option linter.unusedVariables false
set_option maxHeartbeats 4000000
namespace Go.MC.F
noncomputable section
abbrev dR : Int × Rdr := (Int.ofNat 0, [], Int.ofNat 0)
abbrev dB : af := ([], [], [], [], Int.ofNat 0)
open IntKind
abbrev T0 := (List dm) → Int → Nat → Int → Int → Int → (List Txt) → (List Use) → (List Txt) → (List Txt) → Option (Int × aK)
abbrev T1 := af → Int → Int → Int → Int → Nat → Int → (List Int) → Int → (List Txt) → (List Use) → Option (aK × Rdr)
abbrev T2 := Nat → Txt → Int → (List Int) → Int → (List Foe) → (List bi) → (List Txt) → (List dm) → Int → Option Txt
abbrev T3 := Txt → Int → (List Int) → Int → (List Foe) → (List bi) → (List Txt) → (List dm) → Int → Option Txt
abbrev T4 := Nat → Int → Int → Int → (List Txt) → (List Use) → (List Txt) → (List Txt) → Option (Int × aK)
abbrev T5 := Int → Int → Int → (List Txt) → (List Use) → (List Txt) → (List Txt) → Option (Int × aK)
abbrev T6 := Nat → Txt → Int → (List Foe) → (List bi) → (List Txt) → (List dm) → Int → Option Txt
abbrev T7 := Txt → Int → (List Foe) → (List bi) → (List Txt) → (List dm) → Int → Option Txt
abbrev T8 := Int → (List Int) → Int → (List Txt) → (List Use) → Option (aK × Rdr)
abbrev T9 := (List Txt) → Int → Nat → Int → (List Txt) → Option (Int × List Txt)
abbrev T10 := Nat → Int → (List Int) → Int → (List Txt) → Option (aK × Rdr)
abbrev T11 := Int → (List Int) → Int → (List Txt) → Option (List Txt × Rdr)
abbrev T12 := Int → (List Int) → Int → (List bi) → Option (af × Rdr)
abbrev T13 := Int → (List Int) → Int → (List Txt) → Option (af × Rdr)
abbrev T14 := Int → (List Int) → Int → (List Txt) → Option (aK × Rdr)
abbrev T15 := af → (Bool × aK) → Int → Nat → Int → Option Int
abbrev T16 := (List Txt) → (List Txt) → Nat → Int → Option Bool
abbrev T17 := Nat → Int → (List Txt) → Option (Int × List Txt)
abbrev T18 := Nat → Int → (List bi) → Option (af × Int)
abbrev T19 := Nat → Int → (List Txt) → Option (aK × Rdr)
abbrev T20 := Int → Int → (List Txt) → Option (List Txt)
abbrev T21 := Nat → Int → (List Use) → Option (List Use)
abbrev T22 := Nat → Int → (List Int) → Option (List Int)
abbrev T23 := Int → (List Txt) → Option (Int × List Txt)
abbrev T24 := Int → Txt → Int → Int → Option (Int × Use)
abbrev T25 := Int → (List bi) → Option (af × Int)
abbrev T26 := Int → (List Txt) → Option (Txt × af)
abbrev T27 := Int → (List Txt) → Option (aK × Rdr)
abbrev T28 := Nat → Int → (List dm) → Option af
abbrev T29 := Nat → Int → (List bi) → Option af
abbrev T30 := af → aK → Nat → Int → Option Bool
abbrev T31 := Int → (List Txt) → Option (List Txt)
abbrev T32 := Int → (List Use) → Option (List Use)
abbrev T33 := af → aK → Nat → Int → Option Int
abbrev T34 := Int → (List Int) → Option (List Int)
abbrev T35 := af → Int → Nat → Int → Option Bool
abbrev T36 := Txt → Int → (List bi) → Option Txt
abbrev T37 := af → Txt → Nat → Int → Option Int
abbrev T38 := Nat → Int → (List Txt) → Option Txt
abbrev T39 := Nat → Txt → Int → Txt → Option Txt
abbrev T40 := Int → (List dm) → Option af
abbrev T41 := Int → (List bi) → Option af
abbrev T42 := af → Nat → Int → Option Bool
abbrev T43 := Int → Txt → Option (Int × Txt)
abbrev T44 := Int → Int → Option (Int × Int)
abbrev T45 := Int → Int → Option (Int × Rdr)
abbrev T46 := Txt → Nat → Int → Option Bool
abbrev T47 := Int → (List Txt) → Option Txt
abbrev T48 := Nat → Int → Int → Option Int
abbrev T49 := Nat → Txt → Int → Option Txt
abbrev T50 := Txt → Int → Txt → Option Txt
abbrev T51 := Nat → Int → Option Bool
abbrev T52 := Nat → Int → Option Int
abbrev T53 := Int → Int → Option Int
abbrev T54 := Txt → Int → Option Txt
abbrev T55 := Int → Option Bool
abbrev T56 := Int → Option Int
def uX (N : Nat) (s : Txt) (bH : Int) (next : T20) : T20 := fun oC i7 iB => bif decide (i7 < s.length) then bif decide (0 ≤ i7) then
 bif decide (i7 < s.length) then bif ((s.getD i7.toNat 0).toNat : Int) == bH then bif decide (0 ≤ oC) then bif decide (oC ≤ i7) then
 bif decide (i7 ≤ s.length) then bif decide ((iB.length + 1) * 16 ≤ lim) then
 next (i64.wrap (i7 + 1)) (i64.wrap (i7 + 1)) (iB ++ [List.drop oC.toNat (List.take i7.toNat s)]) else none else none else none else none else
 next oC (i64.wrap (i7 + 1)) iB else none else none else bif decide (0 ≤ oC) then bif decide (oC ≤ s.length) then
 bif decide ((s.length : Int) ≤ (s.length : Int)) then bif decide ((iB.length + 1) * 16 ≤ lim) then
 some (iB ++ [List.drop oC.toNat (List.take (s.length : Int).toNat s)]) else none else none else none else none
def Bv (N : Nat) (s : Txt) (bH : Int) : Nat → Int → Int → (List Txt) → Option (List Txt) := lp (fun _ _ _ => none) fun next => uX N s bH next
def apK (N : Nat) (I0 : Txt → Int → Nat → Int → Int → (List Txt) → Option (List Txt)) (s : Txt) (bH : Int) : Option (List Txt) := I0 s bH N 0 0 []
def Oa (N : Nat) (s : Txt) (bH : Int) : Option (List Txt) := apK N (Bv N) s bH
def X5 (N : Nat) (list : List Txt) : Option (List Txt) := bif decide ((0 + list.length) * 16 ≤ lim) then some ([] ++ list) else none
def abf (N : Nat) (w : aK) : Option aK := bif decide ((0 + w.2.2.2.1.length) * 32 ≤ lim) then ob (F.X5 N w.2.2.1) [] fun r =>
 ob (F.X5 N w.2.2.2.2.1) [] fun aA => ob (F.X5 N w.2.2.2.2.2) [] fun bA => some (w.1, w.2.1, r, [] ++ w.2.2.2.1, aA, bA) else none
def OB (N : Nat) (b : af) (r : List Txt) (tB : Int) (pC : List Foe) (qC : List bi) (next : T40) : T40 := fun i6 zE =>
 bif decide (i6 < b.2.2.2.1.length) then bif decide (0 ≤ i6) then bif decide (i6 < b.2.2.2.1.length) then
 ob (F.abf N (b.2.2.2.1.getD i6.toNat bU).1) rY fun bA => bif decide (0 ≤ i6) then bif decide (i6 < b.2.2.2.1.length) then
 bif decide ((zE.length + [(bA, (b.2.2.2.1.getD i6.toNat bU).2)].length) * 120 ≤ lim) then
 next (i64.wrap (i6 + 1)) (zE ++ [(bA, (b.2.2.2.1.getD i6.toNat bU).2)]) else none else none else none else none else none else
 some (pC, qC, r, zE, b.2.2.2.2)
def TR (N : Nat) (b : af) (r : List Txt) (tB : Int) (pC : List Foe) (qC : List bi) : T28 := lp (fun _ _ => none) fun next => OB N b r tB pC qC next
def PY (N : Nat) (I0 : af → (List Txt) → Int → (List Foe) → (List bi) → Nat → Int → (List dm) → Option af) (b : af) (r : List Txt) (tB : Int) (pC : List Foe) (next : T41) : T41 := fun i4 qC =>
 bif decide (i4 < b.2.1.length) then bif decide (0 ≤ i4) then bif decide (i4 < b.2.1.length) then
 ob (F.X5 N (b.2.1.getD i4.toNat aJ).2.2.2.2) [] fun aA =>
 bif decide ((qC.length + [((b.2.1.getD i4.toNat aJ).1, (b.2.1.getD i4.toNat aJ).2.1, (b.2.1.getD i4.toNat aJ).2.2.1, (b.2.1.getD i4.toNat aJ).2.2.2.1, aA)].length) * 64 ≤ lim) then
 next (i64.wrap (i4 + 1)) (qC ++ [((b.2.1.getD i4.toNat aJ).1, (b.2.1.getD i4.toNat aJ).2.1, (b.2.1.getD i4.toNat aJ).2.2.1, (b.2.1.getD i4.toNat aJ).2.2.2.1, aA)]) else none else none else none
 else I0 b r tB pC qC N 0 []
def afa (N : Nat) (b : af) (r : List Txt) (tB : Int) (pC : List Foe) : T29 := lp (fun _ _ => none) fun next => PY N (TR N) b r tB pC next
def aoP (N : Nat) (I1 : af → (List Txt) → Int → (List Foe) → Nat → Int → (List bi) → Option af) (b : af) : Option af :=
 bif decide ((0 + b.1.length) * 32 ≤ lim) then ob (F.X5 N b.2.2.1) [] fun r => I1 b r 0 ([] ++ b.1) N 0 [] else none
def F7 (N : Nat) (b : af) : Option af := aoP N (afa N) b
def kR (N : Nat) (n : Int) (low : Int) (high : Int) : Option Bool := bif decide (n ≥ low) then some (decide (n ≤ high)) else some false
def OX (N : Nat) (s : Txt) (next : T55) : T55 := fun i3 => bif decide (i3 < s.length) then bif decide (0 ≤ i3) then bif decide (i3 < s.length) then
 bif decide (((s.getD i3.toNat 0).toNat : Int) ≥ 97) then bif decide (((s.getD i3.toNat 0).toNat : Int) ≤ 122) then next (i64.wrap (i3 + 1)) else
 bif decide (((s.getD i3.toNat 0).toNat : Int) ≥ 48) then bif decide (((s.getD i3.toNat 0).toNat : Int) ≤ 57) then next (i64.wrap (i3 + 1)) else
 bif !((s.getD i3.toNat 0).toNat : Int) == 45 then some false else next (i64.wrap (i3 + 1)) else bif !((s.getD i3.toNat 0).toNat : Int) == 45 then some false
 else next (i64.wrap (i3 + 1)) else bif decide (((s.getD i3.toNat 0).toNat : Int) ≥ 48) then bif decide (((s.getD i3.toNat 0).toNat : Int) ≤ 57) then
 next (i64.wrap (i3 + 1)) else bif !((s.getD i3.toNat 0).toNat : Int) == 45 then some false else next (i64.wrap (i3 + 1)) else
 bif !((s.getD i3.toNat 0).toNat : Int) == 45 then some false else next (i64.wrap (i3 + 1)) else none else none else some true
def aeb (N : Nat) (s : Txt) : T51 := lp (fun _ => none) fun next => OX N s next
def alm (N : Nat) (I0 : T46) (s : Txt) : Option Bool := ob (F.kR N (s.length : Int) 1 8) false fun r => bif !r then some false else I0 s N 0
def Yw (N : Nat) (s : Txt) : Option Bool := alm N (aeb N) s
def O6 (N : Nat) (b : af) (next : T55) : T55 := fun i3 => bif decide (i3 < b.1.length) then bif decide (0 ≤ i3) then bif decide (i3 < b.1.length) then
 ob (F.Yw N (b.1.getD i3.toNat jd).1) false fun r => bif !r then some false else ob (F.Yw N (b.1.getD i3.toNat jd).2) false fun aA => bif !aA then
 some false else bif !Op.bytesLess (b.1.getD i3.toNat jd).1 (b.1.getD i3.toNat jd).2 then some false else bif decide (i3 > 0) then
 bif decide (0 ≤ i64.wrap (i3 - 1)) then bif decide (i64.wrap (i3 - 1) < (b.1.length : Int)) then
 bif !(Op.bytesLess (b.1.getD (i64.wrap (i3 - 1)).toNat jd).1 (b.1.getD i3.toNat jd).1 || (b.1.getD (i64.wrap (i3 - 1)).toNat jd).1 == (b.1.getD i3.toNat jd).1) then
 some false else bif decide (0 ≤ i64.wrap (i3 - 1)) then bif decide (i64.wrap (i3 - 1) < (b.1.length : Int)) then
 bif (b.1.getD (i64.wrap (i3 - 1)).toNat jd).1 == (b.1.getD i3.toNat jd).1 then bif decide (0 ≤ i64.wrap (i3 - 1)) then
 bif decide (i64.wrap (i3 - 1) < (b.1.length : Int)) then bif !Op.bytesLess (b.1.getD (i64.wrap (i3 - 1)).toNat jd).2 (b.1.getD i3.toNat jd).2 then
 some false else next (i64.wrap (i3 + 1)) else none else none else next (i64.wrap (i3 + 1)) else none else none else none else none else
 next (i64.wrap (i3 + 1)) else none else none else some true
def afv (N : Nat) (b : af) : T51 := lp (fun _ => none) fun next => O6 N b next
def amD (N : Nat) (I0 : T42) (b : af) : Option Bool := bif decide ((b.1.length : Int) > 12) then some false else I0 b N 0
def aoT (N : Nat) (b : af) : Option Bool := amD N (afv N) b
def Pm (N : Nat) (list : List Txt) (next : T55) : T55 := fun i5 => bif decide (i5 < list.length) then bif decide (0 ≤ i5) then
 bif decide (i5 < list.length) then ob (F.Yw N (list.getD i5.toNat [])) false fun r => bif !r then some false else bif decide (i5 > 0) then
 bif decide (0 ≤ i64.wrap (i5 - 1)) then bif decide (i64.wrap (i5 - 1) < (list.length : Int)) then bif decide (0 ≤ i5) then bif decide (i5 < list.length) then
 bif !Op.bytesLess (list.getD (i64.wrap (i5 - 1)).toNat []) (list.getD i5.toNat []) then some false else
 next (i64.wrap (i5 + 1)) else none else none else none else none else next (i64.wrap (i5 + 1)) else none else none else some true
def ac3 (N : Nat) (list : List Txt) : T51 := lp (fun _ => none) fun next => Pm N list next
def aqe (N : Nat) (I0 : (List Txt) → Nat → Int → Option Bool) (list : List Txt) (most : Int) : Option Bool := bif decide ((list.length : Int) > most) then
 some false else I0 list N 0
def U0 (N : Nat) (list : List Txt) (most : Int) : Option Bool := aqe N (ac3 N) list most
def Qx (N : Nat) (b : af) (x : Txt) (y : Txt) (next : T55) : T55 := fun i7 => bif decide (i7 < b.1.length) then bif decide (0 ≤ i7) then
 bif decide (i7 < b.1.length) then bif (b.1.getD i7.toNat jd).1 == x then bif decide (0 ≤ i7) then bif decide (i7 < b.1.length) then
 bif (b.1.getD i7.toNat jd).2 == y then some true else bif decide (0 ≤ i7) then bif decide (i7 < b.1.length) then bif (b.1.getD i7.toNat jd).1 == y then
 bif decide (0 ≤ i7) then bif decide (i7 < b.1.length) then bif (b.1.getD i7.toNat jd).2 == x then some true else
 next (i64.wrap (i7 + 1)) else none else none else next (i64.wrap (i7 + 1)) else none else none else none else none else bif decide (0 ≤ i7) then
 bif decide (i7 < b.1.length) then bif (b.1.getD i7.toNat jd).1 == y then bif decide (0 ≤ i7) then bif decide (i7 < b.1.length) then
 bif (b.1.getD i7.toNat jd).2 == x then some true else next (i64.wrap (i7 + 1)) else none else none else
 next (i64.wrap (i7 + 1)) else none else none else none else none else some false
def aee (N : Nat) (b : af) (x : Txt) (y : Txt) : T51 := lp (fun _ => none) fun next => Qx N b x y next
def amS (N : Nat) (I0 : af → Txt → Txt → Nat → Int → Option Bool) (b : af) (x : Txt) (y : Txt) : Option Bool := I0 b x y N 0
def ak3 (N : Nat) (b : af) (x : Txt) (y : Txt) : Option Bool := amS N (aee N) b x y
def Ox (N : Nat) (b : af) (stuff : Txt) (may : List Txt) (next : T55) : T55 := fun i7 => bif decide (i7 < may.length) then bif decide (0 ≤ i7) then
 bif decide (i7 < may.length) then ob (F.ak3 N b stuff (may.getD i7.toNat [])) false fun r => bif r then some true else
 next (i64.wrap (i7 + 1)) else none else none else some false
def afh (N : Nat) (b : af) (stuff : Txt) (may : List Txt) : T51 := lp (fun _ => none) fun next => Ox N b stuff may next
def aoa (N : Nat) (I0 : af → Txt → (List Txt) → Nat → Int → Option Bool) (b : af) (stuff : Txt) (may : List Txt) : Option Bool := I0 b stuff may N 0
def aju (N : Nat) (b : af) (stuff : Txt) (may : List Txt) : Option Bool := aoa N (afh N) b stuff may
def Qs (N : Nat) (b : af) (s : bi) (next : T55) : T55 := fun i5 => bif decide (i5 < s.2.2.2.2.length) then bif decide (0 ≤ i5) then
 bif decide (i5 < s.2.2.2.2.length) then ob (F.aju N b (s.2.2.2.2.getD i5.toNat []) s.2.2.2.2) false fun cA => bif cA then some false else
 next (i64.wrap (i5 + 1)) else none else none else some true
def YG (N : Nat) (b : af) (s : bi) : T51 := lp (fun _ => none) fun next => Qs N b s next
def amL (N : Nat) (I0 : af → bi → Nat → Int → Option Bool) (b : af) (s : bi) : Option Bool := ob (F.Yw N s.1) false fun r => bif !r then some false
 else ob (F.kR N s.2.1 0 1000) false fun aA => bif !aA then some false else ob (F.kR N s.2.2.1 0 s.2.2.2.1) false fun bA => bif !bA then some false else
 bif decide (s.2.2.2.1 > s.2.1) then some false else ob (F.U0 N s.2.2.2.2 8) false fun fA => bif !fA then some false else I0 b s N 0
def alz (N : Nat) (b : af) (s : bi) : Option Bool := amL N (YG N) b s
def O_ (N : Nat) (w : aK) (next : T55) : T55 := fun i3 => bif decide (i3 < w.2.2.2.1.length) then bif decide (0 ≤ i3) then
 bif decide (i3 < w.2.2.2.1.length) then ob (F.Yw N (w.2.2.2.1.getD i3.toNat bY).1) false fun r => bif !r then some false else bif decide (i3 > 0) then
 bif decide (0 ≤ i64.wrap (i3 - 1)) then bif decide (i64.wrap (i3 - 1) < (w.2.2.2.1.length : Int)) then
 bif !Op.bytesLess (w.2.2.2.1.getD (i64.wrap (i3 - 1)).toNat bY).1 (w.2.2.2.1.getD i3.toNat bY).1 then some false else
 ob (F.kR N (w.2.2.2.1.getD i3.toNat bY).2.1 1 3) false fun aA => bif !aA then some false else bif (w.2.2.2.1.getD i3.toNat bY).2.1 == 3 then
 bif (w.2.2.2.1.getD i3.toNat bY).2.2 != 0 then some false else bif (w.2.2.2.1.getD i3.toNat bY).2.1 != 3 then bif w.2.1 != 1 then some false else
 ob (F.kR N (w.2.2.2.1.getD i3.toNat bY).2.2 1 1000) false fun bA => bif !bA then some false else next (i64.wrap (i3 + 1)) else next (i64.wrap (i3 + 1))
 else bif (w.2.2.2.1.getD i3.toNat bY).2.1 != 3 then bif w.2.1 != 1 then some false else
 ob (F.kR N (w.2.2.2.1.getD i3.toNat bY).2.2 1 1000) false fun fA => bif !fA then some false else next (i64.wrap (i3 + 1)) else
 next (i64.wrap (i3 + 1)) else none else none else ob (F.kR N (w.2.2.2.1.getD i3.toNat bY).2.1 1 3) false fun cA => bif !cA then some false else
 bif (w.2.2.2.1.getD i3.toNat bY).2.1 == 3 then bif (w.2.2.2.1.getD i3.toNat bY).2.2 != 0 then some false else
 bif (w.2.2.2.1.getD i3.toNat bY).2.1 != 3 then bif w.2.1 != 1 then some false else ob (F.kR N (w.2.2.2.1.getD i3.toNat bY).2.2 1 1000) false fun nA =>
 bif !nA then some false else next (i64.wrap (i3 + 1)) else next (i64.wrap (i3 + 1)) else bif (w.2.2.2.1.getD i3.toNat bY).2.1 != 3 then bif w.2.1 != 1 then
 some false else ob (F.kR N (w.2.2.2.1.getD i3.toNat bY).2.2 1 1000) false fun jA => bif !jA then some false else next (i64.wrap (i3 + 1)) else
 next (i64.wrap (i3 + 1)) else none else none else some true
def afr (N : Nat) (w : aK) : T51 := lp (fun _ => none) fun next => O_ N w next
def anh (N : Nat) (I0 : aK → Nat → Int → Option Bool) (w : aK) : Option Bool := bif decide ((w.2.2.2.1.length : Int) > 8) then some false else I0 w N 0
def aqg (N : Nat) (w : aK) : Option Bool := anh N (afr N) w
def Jd (N : Nat) (list : List Txt) (name : Txt) (next : T55) : T55 := fun i5 => bif decide (i5 < list.length) then bif decide (0 ≤ i5) then
 bif decide (i5 < list.length) then bif list.getD i5.toNat [] == name then some true else next (i64.wrap (i5 + 1)) else none else none else some false
def Ym (N : Nat) (list : List Txt) (name : Txt) : T51 := lp (fun _ => none) fun next => Jd N list name next
def ady (N : Nat) (I0 : (List Txt) → Txt → Nat → Int → Option Bool) (list : List Txt) (name : Txt) : Option Bool := I0 list name N 0
def xw (N : Nat) (list : List Txt) (name : Txt) : Option Bool := ady N (Ym N) list name
def O8 (N : Nat) (a : List Txt) (b : List Txt) (next : T55) : T55 := fun i5 => bif decide (i5 < a.length) then bif decide (0 ≤ i5) then
 bif decide (i5 < a.length) then ob (F.xw N b (a.getD i5.toNat [])) false fun r => bif r then some true else next (i64.wrap (i5 + 1)) else none else none
 else some false
def adc (N : Nat) (a : List Txt) (b : List Txt) : T51 := lp (fun _ => none) fun next => O8 N a b next
def api (N : Nat) (I0 : T16) (a : List Txt) (b : List Txt) : Option Bool := I0 a b N 0
def QO (N : Nat) (a : List Txt) (b : List Txt) : Option Bool := api N (adc N) a b
def aii (N : Nat) (w : aK) : Option Bool := ob (F.kR N w.1 1 1000000) false fun r => bif !r then some false else ob (F.kR N w.2.1 1 3) false fun aA =>
 bif !aA then some false else ob (F.aqg N w) false fun bA => bif !bA then some false else ob (F.U0 N w.2.2.2.2.1 12) false fun fA => bif !fA then some false
 else ob (F.U0 N w.2.2.2.2.2 12) false fun cA => bif !cA then some false else ob (F.QO N w.2.2.2.2.1 w.2.2.2.2.2) false fun nA => bif nA then some false
 else bif i64.wrap (i64.wrap ((w.2.2.2.1.length : Int) + (w.2.2.2.2.1.length : Int)) + (w.2.2.2.2.2.length : Int)) == 0 then some false else
 bif w.2.1 != 1 then bif decide ((w.2.2.2.2.1.length : Int) > 0) then some false else ob (F.U0 N w.2.2.1 8) false fun jA => bif jA then
 some ((w.2.1 == 1) == decide ((w.2.2.1.length : Int) > 0)) else some false else ob (F.U0 N w.2.2.1 8) false fun oA => bif oA then
 some ((w.2.1 == 1) == decide ((w.2.2.1.length : Int) > 0)) else some false
def Es (N : Nat) (b : af) (name : Txt) (next : T56) : T56 := fun i5 => bif decide (i5 < b.2.1.length) then bif decide (0 ≤ i5) then
 bif decide (i5 < b.2.1.length) then bif (b.2.1.getD i5.toNat aJ).1 == name then some i5 else next (i64.wrap (i5 + 1)) else none else none else some (-1)
def Zn (N : Nat) (b : af) (name : Txt) : T52 := lp (fun _ => none) fun next => Es N b name next
def afl (N : Nat) (I0 : T37) (b : af) (name : Txt) : Option Int := I0 b name N 0
def xR (N : Nat) (b : af) (name : Txt) : Option Int := afl N (Zn N) b name
def PW (N : Nat) (b : af) (w : aK) (next : T55) : T55 := fun i7 => bif decide (i7 < w.2.2.2.2.2.length) then bif decide (0 ≤ i7) then
 bif decide (i7 < w.2.2.2.2.2.length) then ob (F.xw N b.2.2.1 (w.2.2.2.2.2.getD i7.toNat [])) false fun bA => bif !bA then some false else
 next (i64.wrap (i7 + 1)) else none else none else some true
def Kq (N : Nat) (b : af) (w : aK) : T51 := lp (fun _ => none) fun next => PW N b w next
def PU (N : Nat) (I0 : T30) (b : af) (w : aK) (next : T55) : T55 := fun i6 => bif decide (i6 < w.2.2.2.2.1.length) then bif decide (0 ≤ i6) then
 bif decide (i6 < w.2.2.2.2.1.length) then ob (F.xw N b.2.2.1 (w.2.2.2.2.1.getD i6.toNat [])) false fun aA => bif !aA then some false else
 next (i64.wrap (i6 + 1)) else none else none else I0 b w N 0
def LZ (N : Nat) (b : af) (w : aK) : T51 := lp (fun _ => none) fun next => PU N (Kq N) b w next
def Qj (N : Nat) (I1 : T30) (b : af) (w : aK) (next : T55) : T55 := fun i5 => bif decide (i5 < w.2.2.2.1.length) then bif decide (0 ≤ i5) then
 bif decide (i5 < w.2.2.2.1.length) then ob (F.xR N b (w.2.2.2.1.getD i5.toNat bY).1) (Int.ofNat 0) fun r => bif decide (r < 0) then some false else
 next (i64.wrap (i5 + 1)) else none else none else I1 b w N 0
def adk (N : Nat) (b : af) (w : aK) : T51 := lp (fun _ => none) fun next => Qj N (LZ N) b w next
def am5 (N : Nat) (I2 : T30) (b : af) (w : aK) : Option Bool := I2 b w N 0
def akb (N : Nat) (b : af) (w : aK) : Option Bool := am5 N (adk N) b w
def Gq (N : Nat) (a : List Txt) (b : List Txt) (next : T55) : T55 := fun i5 => bif decide (i5 < a.length) then bif decide (0 ≤ i5) then
 bif decide (i5 < a.length) then ob (F.xw N b (a.getD i5.toNat [])) false fun r => bif !r then some false else next (i64.wrap (i5 + 1)) else none else none
 else some true
def ZE (N : Nat) (a : List Txt) (b : List Txt) : T51 := lp (fun _ => none) fun next => Gq N a b next
def aea (N : Nat) (I0 : T16) (a : List Txt) (b : List Txt) : Option Bool := I0 a b N 0
def uN (N : Nat) (a : List Txt) (b : List Txt) : Option Bool := aea N (ZE N) a b
def alK (N : Nat) (s : bi) (w : aK) (u : Use) : Option Bool := bif w.2.1 == 2 then bif decide (s.2.2.2.1 > 0) then some false else bif w.2.1 == 1 then
 bif u.2.1 != 2 then ob (F.uN N s.2.2.2.2 w.2.2.1) false fun r => bif !r then some false else bif w.2.1 == 1 then bif u.2.1 != 1 then
 ob (F.uN N w.2.2.1 s.2.2.2.2) false fun aA => bif !aA then some false else some (decide (i64.wrap (s.2.2.1 + u.2.2) ≤ s.2.2.2.1)) else
 some (decide (i64.wrap (s.2.2.1 + u.2.2) ≤ s.2.2.2.1)) else some (decide (i64.wrap (s.2.2.1 + u.2.2) ≤ s.2.2.2.1)) else bif w.2.1 == 1 then
 bif u.2.1 != 1 then ob (F.uN N w.2.2.1 s.2.2.2.2) false fun bA => bif !bA then some false else some (decide (i64.wrap (s.2.2.1 + u.2.2) ≤ s.2.2.2.1)) else
 some (decide (i64.wrap (s.2.2.1 + u.2.2) ≤ s.2.2.2.1)) else some (decide (i64.wrap (s.2.2.1 + u.2.2) ≤ s.2.2.2.1)) else bif w.2.1 == 1 then
 bif u.2.1 != 1 then ob (F.uN N w.2.2.1 s.2.2.2.2) false fun fA => bif !fA then some false else some (decide (i64.wrap (s.2.2.1 + u.2.2) ≤ s.2.2.2.1)) else
 some (decide (i64.wrap (s.2.2.1 + u.2.2) ≤ s.2.2.2.1)) else some (decide (i64.wrap (s.2.2.1 + u.2.2) ≤ s.2.2.2.1)) else bif w.2.1 == 1 then
 bif u.2.1 != 2 then ob (F.uN N s.2.2.2.2 w.2.2.1) false fun cA => bif !cA then some false else bif w.2.1 == 1 then bif u.2.1 != 1 then
 ob (F.uN N w.2.2.1 s.2.2.2.2) false fun nA => bif !nA then some false else some (decide (i64.wrap (s.2.2.1 + u.2.2) ≤ s.2.2.2.1)) else
 some (decide (i64.wrap (s.2.2.1 + u.2.2) ≤ s.2.2.2.1)) else some (decide (i64.wrap (s.2.2.1 + u.2.2) ≤ s.2.2.2.1)) else bif w.2.1 == 1 then
 bif u.2.1 != 1 then ob (F.uN N w.2.2.1 s.2.2.2.2) false fun jA => bif !jA then some false else some (decide (i64.wrap (s.2.2.1 + u.2.2) ≤ s.2.2.2.1)) else
 some (decide (i64.wrap (s.2.2.1 + u.2.2) ≤ s.2.2.2.1)) else some (decide (i64.wrap (s.2.2.1 + u.2.2) ≤ s.2.2.2.1)) else bif w.2.1 == 1 then
 bif u.2.1 != 1 then ob (F.uN N w.2.2.1 s.2.2.2.2) false fun oA => bif !oA then some false else some (decide (i64.wrap (s.2.2.1 + u.2.2) ≤ s.2.2.2.1)) else
 some (decide (i64.wrap (s.2.2.1 + u.2.2) ≤ s.2.2.2.1)) else some (decide (i64.wrap (s.2.2.1 + u.2.2) ≤ s.2.2.2.1))
def Qb (N : Nat) (b : af) (p : dm) (next : T55) : T55 := fun i5 => bif decide (i5 < p.1.2.2.2.1.length) then bif decide (0 ≤ i5) then
 bif decide (i5 < p.1.2.2.2.1.length) then ob (F.xR N b (p.1.2.2.2.1.getD i5.toNat bY).1) (Int.ofNat 0) fun bA => bif decide (0 ≤ bA) then
 bif decide (bA < b.2.1.length) then bif decide (0 ≤ i5) then bif decide (i5 < p.1.2.2.2.1.length) then
 ob (F.alK N (b.2.1.getD bA.toNat aJ) p.1 (p.1.2.2.2.1.getD i5.toNat bY)) false fun fA => bif !fA then some false else
 next (i64.wrap (i5 + 1)) else none else none else none else none else none else none else some true
def adU (N : Nat) (b : af) (p : dm) : T51 := lp (fun _ => none) fun next => Qb N b p next
def aqy (N : Nat) (I0 : af → dm → Nat → Int → Option Bool) (b : af) (p : dm) : Option Bool := ob (F.aii N p.1) false fun r => bif !r then some false
 else bif decide (p.1.1 > b.2.2.2.2) then some false else ob (F.akb N b p.1) false fun aA => bif !aA then some false else I0 b p N 0
def aoc (N : Nat) (b : af) (p : dm) : Option Bool := aqy N (adU N) b p
def Fa (N : Nat) (w : aK) (next : T31) : T31 := fun i4 hA => bif decide (i4 < w.2.2.2.1.length) then bif decide (0 ≤ i4) then
 bif decide (i4 < w.2.2.2.1.length) then bif decide ((hA.length + [(w.2.2.2.1.getD i4.toNat bY).1].length) * 16 ≤ lim) then
 next (i64.wrap (i4 + 1)) (hA ++ [(w.2.2.2.1.getD i4.toNat bY).1]) else none else none else none else some hA
def YS (N : Nat) (w : aK) : Nat → Int → (List Txt) → Option (List Txt) := lp (fun _ _ => none) fun next => Fa N w next
def acN (N : Nat) (I0 : aK → Nat → Int → (List Txt) → Option (List Txt)) (w : aK) : Option (List Txt) := I0 w N 0 []
def G6 (N : Nat) (w : aK) : Option (List Txt) := acN N (YS N) w
def aeJ (N : Nat) (a : aK) (b : aK) : Option Bool := ob (F.QO N a.2.2.2.2.1 b.2.2.2.2.1) false fun r => bif r then some true else
 ob (F.QO N a.2.2.2.2.1 b.2.2.2.2.2) false fun aA => bif aA then some true else ob (F.QO N a.2.2.2.2.2 b.2.2.2.2.1) false fun bA => some bA
def P9 (N : Nat) (qD : T55) (b : af) (i3 : Int) (aG : Int) (bG : Int) (cG : List Txt) (dG : List Use) (eG : List Txt) (fG : List Txt) (next : T55) : T55 := fun k5 =>
 bif decide (k5 < i3) then bif decide (0 ≤ k5) then bif decide (k5 < b.2.2.2.1.length) then ob (F.G6 N (aG, bG, cG, dG, eG, fG)) [] fun aA =>
 ob (F.G6 N (b.2.2.2.1.getD k5.toNat bU).1) [] fun bA => ob (F.QO N aA bA) false fun fA => bif fA then some false else
 ob (F.aeJ N (aG, bG, cG, dG, eG, fG) (b.2.2.2.1.getD k5.toNat bU).1) false fun cA => bif cA then some false else
 next (i64.wrap (k5 + 1)) else none else none else qD (i64.wrap (i3 + 1))
def Uw (N : Nat) (qD : T55) (b : af) (i3 : Int) (aG : Int) (bG : Int) (cG : List Txt) (dG : List Use) (eG : List Txt) (fG : List Txt) : T51 := lp (fun _ => none) fun next => P9 N qD b i3 aG bG cG dG eG fG next
def Qv (N : Nat) (I0 : Int → Int → Int → (List Txt) → (List Use) → (List Txt) → (List Txt) → Nat → Int → Option Bool) (b : af) (next : T55) : T55 := fun i3 =>
 bif decide (i3 < b.2.2.2.1.length) then bif decide (0 ≤ i3) then bif decide (i3 < b.2.2.2.1.length) then bif decide (0 ≤ i3) then
 bif decide (i3 < b.2.2.2.1.length) then ob (F.aoc N b (b.2.2.2.1.getD i3.toNat bU)) false fun r => bif !r then some false else bif decide (i3 > 0) then
 bif decide (0 ≤ i64.wrap (i3 - 1)) then bif decide (i64.wrap (i3 - 1) < (b.2.2.2.1.length : Int)) then
 bif decide ((b.2.2.2.1.getD (i64.wrap (i3 - 1)).toNat bU).1.1 ≥ (b.2.2.2.1.getD i3.toNat bU).1.1) then some false else
 I0 i3 ((b.2.2.2.1.getD i3.toNat bU).1.1) ((b.2.2.2.1.getD i3.toNat bU).1.2.1) ((b.2.2.2.1.getD i3.toNat bU).1.2.2.1) ((b.2.2.2.1.getD i3.toNat bU).1.2.2.2.1) ((b.2.2.2.1.getD i3.toNat bU).1.2.2.2.2.1) ((b.2.2.2.1.getD i3.toNat bU).1.2.2.2.2.2) N 0 else none else none
 else
 I0 i3 ((b.2.2.2.1.getD i3.toNat bU).1.1) ((b.2.2.2.1.getD i3.toNat bU).1.2.1) ((b.2.2.2.1.getD i3.toNat bU).1.2.2.1) ((b.2.2.2.1.getD i3.toNat bU).1.2.2.2.1) ((b.2.2.2.1.getD i3.toNat bU).1.2.2.2.2.1) ((b.2.2.2.1.getD i3.toNat bU).1.2.2.2.2.2) N 0 else none else none else none else none
 else some true
def aeC (N : Nat) (b : af) : T51 := lp (fun _ => none) fun next => Qv N (Uw N next b) b next
def apl (N : Nat) (I1 : T42) (b : af) : Option Bool := bif decide ((b.2.2.2.1.length : Int) > 6) then some false else I1 b N 0
def ap1 (N : Nat) (b : af) : Option Bool := apl N (aeC N) b
def Qg (N : Nat) (b : af) (next : T55) : T55 := fun i3 => bif decide (i3 < b.2.1.length) then bif decide (0 ≤ i3) then
 bif decide (i3 < b.2.1.length) then ob (F.alz N b (b.2.1.getD i3.toNat aJ)) false fun fA => bif !fA then some false else bif decide (i3 > 0) then
 bif decide (0 ≤ i64.wrap (i3 - 1)) then bif decide (i64.wrap (i3 - 1) < (b.2.1.length : Int)) then bif decide (0 ≤ i3) then
 bif decide (i3 < b.2.1.length) then bif !Op.bytesLess (b.2.1.getD (i64.wrap (i3 - 1)).toNat aJ).1 (b.2.1.getD i3.toNat aJ).1 then some false else
 next (i64.wrap (i3 + 1)) else none else none else none else none else next (i64.wrap (i3 + 1)) else none else none else ob (F.ap1 N b) false fun cA =>
 some cA
def Zi (N : Nat) (b : af) : T51 := lp (fun _ => none) fun next => Qg N b next
def anE (N : Nat) (I0 : T42) (b : af) : Option Bool := ob (F.aoT N b) false fun r => bif !r then some false else
 bif decide ((b.2.1.length : Int) > 8) then some false else ob (F.U0 N b.2.2.1 12) false fun aA => bif !aA then some false else
 ob (F.kR N b.2.2.2.2 0 1000000) false fun bA => bif !bA then some false else I0 b N 0
def UY (N : Nat) (b : af) : Option Bool := anE N (Zi N) b
def Gg (N : Nat) (old : af) (b : af) : Option (af × Txt) := ob (F.UY N b) false fun r => bif !r then some (old, [110, 111]) else
 some (b, [111, 107])
def ZT (N : Nat) (b : af) (ws : List Txt) : Option (af × Txt) := ob (F.F7 N b) dB fun r => bif decide (1 < (ws.length : Int)) then
 bif decide (2 < (ws.length : Int)) then bif decide ((r.1.length + 1) * 32 ≤ lim) then
 ob (F.Gg N b (r.1 ++ [(ws.getD (Int.toNat 1) [], ws.getD (Int.toNat 2) [])], r.2)) (dB, []) fun aA => some aA else none else none else none
def Bz (N : Nat) (s : Txt) (next : T53) : T53 := fun n3 i4 => bif decide (i4 < s.length) then bif decide (0 ≤ i4) then bif decide (i4 < s.length) then
 bif decide (((s.getD i4.toNat 0).toNat : Int) < 48) then some (-1) else bif decide (0 ≤ i4) then bif decide (i4 < s.length) then
 bif decide (((s.getD i4.toNat 0).toNat : Int) > 57) then some (-1) else bif decide (0 ≤ i4) then bif decide (i4 < s.length) then
 next (i64.wrap (i64.wrap (i64.wrap (n3 * 10) + i64.wrap ((s.getD i4.toNat 0).toNat : Int)) - 48)) (i64.wrap (i4 + 1)) else none else none else none else none else none else none
 else some n3
def Dx (N : Nat) (s : Txt) : T48 := lp (fun _ _ => none) fun next => Bz N s next
def ao_ (N : Nat) (I0 : Txt → Nat → Int → Int → Option Int) (s : Txt) : Option Int := ob (F.kR N (s.length : Int) 1 7) false fun r => bif !r then
 some (-1) else bif decide ((s.length : Int) > 1) then bif decide (0 < (s.length : Int)) then bif ((s.getD (Int.toNat 0) 0).toNat : Int) == 48 then some (-1)
 else I0 s N 0 0 else none else I0 s N 0 0
def zX (N : Nat) (s : Txt) : Option Int := ao_ N (Dx N) s
def Sm (N : Nat) (s : Txt) : Option (List Txt) := bif s == [45] then some [] else ob (F.Oa N s 44) [] fun r => some r
def uu (N : Nat) (b : af) (ws : List Txt) (r : af) (lC : Int) (next : Int → Option (af × Txt)) : Int → Option (af × Txt) := fun k7 =>
 bif decide (k7 < r.2.1.length) then bif decide (0 ≤ k7) then bif decide (k7 < r.2.1.length) then bif decide (1 < (ws.length : Int)) then
 bif Op.bytesLess (r.2.1.getD k7.toNat aJ).1 (ws.getD (Int.toNat 1) []) then next (i64.wrap (k7 + 1)) else bif decide (1 < (ws.length : Int)) then
 bif decide (2 < (ws.length : Int)) then ob (F.zX N (ws.getD (Int.toNat 2) [])) (Int.ofNat 0) fun aA => bif decide (3 < (ws.length : Int)) then
 ob (F.zX N (ws.getD (Int.toNat 3) [])) (Int.ofNat 0) fun bA => bif decide (3 < (ws.length : Int)) then
 ob (F.zX N (ws.getD (Int.toNat 3) [])) default fun fA => bif decide (4 < (ws.length : Int)) then ob (F.Sm N (ws.getD (Int.toNat 4) [])) [] fun cA =>
 bif decide (0 ≤ k7) then bif decide (k7 ≤ r.2.1.length) then bif decide ((0 + (List.drop (Int.toNat 0) (List.take k7.toNat r.2.1)).length) * 64 ≤ lim) then
 bif decide ((([] ++ List.drop (Int.toNat 0) (List.take k7.toNat r.2.1)).length + 1) * 64 ≤ lim) then bif decide (0 ≤ k7) then
 bif decide (k7 ≤ r.2.1.length) then bif decide ((r.2.1.length : Int) ≤ (r.2.1.length : Int)) then
 bif decide ((([] ++ List.drop (Int.toNat 0) (List.take k7.toNat r.2.1) ++ [(ws.getD (Int.toNat 1) [], aA, bA, bA, cA)]).length + (List.drop k7.toNat (List.take (r.2.1.length : Int).toNat r.2.1)).length) * 64 ≤ lim) then
 ob (F.Gg N b (r.1, [] ++ List.drop (Int.toNat 0) (List.take k7.toNat r.2.1) ++ [(ws.getD (Int.toNat 1) [], aA, bA, bA, cA)] ++ List.drop k7.toNat (List.take (r.2.1.length : Int).toNat r.2.1), r.2.2)) (dB, []) fun nA =>
 some nA else none else none else none else none else none else none else none else none else none else none else none else none else none else none else none else none
 else bif decide (1 < (ws.length : Int)) then bif decide (2 < (ws.length : Int)) then ob (F.zX N (ws.getD (Int.toNat 2) [])) (Int.ofNat 0) fun jA =>
 bif decide (3 < (ws.length : Int)) then ob (F.zX N (ws.getD (Int.toNat 3) [])) (Int.ofNat 0) fun oA => bif decide (3 < (ws.length : Int)) then
 ob (F.zX N (ws.getD (Int.toNat 3) [])) default fun kA => bif decide (4 < (ws.length : Int)) then ob (F.Sm N (ws.getD (Int.toNat 4) [])) [] fun wB =>
 bif decide (0 ≤ k7) then bif decide (k7 ≤ r.2.1.length) then bif decide ((0 + (List.drop (Int.toNat 0) (List.take k7.toNat r.2.1)).length) * 64 ≤ lim) then
 bif decide ((([] ++ List.drop (Int.toNat 0) (List.take k7.toNat r.2.1)).length + 1) * 64 ≤ lim) then bif decide (0 ≤ k7) then
 bif decide (k7 ≤ r.2.1.length) then bif decide ((r.2.1.length : Int) ≤ (r.2.1.length : Int)) then
 bif decide ((([] ++ List.drop (Int.toNat 0) (List.take k7.toNat r.2.1) ++ [(ws.getD (Int.toNat 1) [], jA, oA, oA, wB)]).length + (List.drop k7.toNat (List.take (r.2.1.length : Int).toNat r.2.1)).length) * 64 ≤ lim) then
 ob (F.Gg N b (r.1, [] ++ List.drop (Int.toNat 0) (List.take k7.toNat r.2.1) ++ [(ws.getD (Int.toNat 1) [], jA, oA, oA, wB)] ++ List.drop k7.toNat (List.take (r.2.1.length : Int).toNat r.2.1), r.2.2)) (dB, []) fun tA =>
 some tA else none else none else none else none else none else none else none else none else none else none else none else none else none
def AC (N : Nat) (b : af) (ws : List Txt) (r : af) (lC : Int) : Nat → Int → Option (af × Txt) := lp (fun _ => none) fun next => uu N b ws r lC next
def aeZ (N : Nat) (I0 : af → (List Txt) → af → Int → Nat → Int → Option (af × Txt)) (b : af) (ws : List Txt) : Option (af × Txt) :=
 ob (F.F7 N b) dB fun r => I0 b ws r 0 N 0
def abB (N : Nat) (b : af) (ws : List Txt) : Option (af × Txt) := aeZ N (AC N) b ws
def Je (N : Nat) (r : List Txt) (next : T32) : T32 := fun i5 hA => bif decide (i5 < r.length) then bif decide (0 ≤ i5) then
 bif decide (i5 < r.length) then ob (F.Oa N (r.getD i5.toNat []) 60) [] fun aA => bif decide (0 ≤ i5) then bif decide (i5 < r.length) then
 ob (F.Oa N (r.getD i5.toNat []) 62) [] fun bA => bif (aA.length : Int) == 2 then bif decide (0 < (aA.length : Int)) then
 bif decide (1 < (aA.length : Int)) then ob (F.zX N (aA.getD (Int.toNat 1) [])) (Int.ofNat 0) fun fA => bif decide ((hA.length + 1) * 32 ≤ lim) then
 next (i64.wrap (i5 + 1)) (hA ++ [(aA.getD (Int.toNat 0) [], 1, fA)]) else none else none else none else bif (bA.length : Int) == 2 then
 bif decide (0 < (bA.length : Int)) then bif decide (1 < (bA.length : Int)) then ob (F.zX N (bA.getD (Int.toNat 1) [])) (Int.ofNat 0) fun cA =>
 bif decide ((hA.length + 1) * 32 ≤ lim) then next (i64.wrap (i5 + 1)) (hA ++ [(bA.getD (Int.toNat 0) [], 2, cA)]) else none else none else none else
 bif decide (0 ≤ i5) then bif decide (i5 < r.length) then bif decide ((hA.length + 1) * 32 ≤ lim) then
 next (i64.wrap (i5 + 1)) (hA ++ [(r.getD i5.toNat [], 3, 0)]) else none else none else none else none else none else none else none else some hA
def YD (N : Nat) (r : List Txt) : T21 := lp (fun _ _ => none) fun next => Je N r next
def aeL (N : Nat) (I0 : (List Txt) → Nat → Int → (List Use) → Option (List Use)) (s : Txt) : Option (List Use) := ob (F.Sm N s) [] fun r => I0 r N 0 []
def abo (N : Nat) (s : Txt) : Option (List Use) := aeL N (YD N) s
def Tf (N : Nat) (kind : Int) (iJ : Txt) (ws : List Txt) : Option aK := bif decide (0 < (ws.length : Int)) then
 ob (F.zX N (ws.getD (Int.toNat 0) [])) (Int.ofNat 0) fun r => ob (F.Sm N iJ) [] fun aA => bif decide (1 < (ws.length : Int)) then
 ob (F.abo N (ws.getD (Int.toNat 1) [])) [] fun bA => bif decide (2 < (ws.length : Int)) then ob (F.Sm N (ws.getD (Int.toNat 2) [])) [] fun fA =>
 bif decide (3 < (ws.length : Int)) then ob (F.Sm N (ws.getD (Int.toNat 3) [])) [] fun cA =>
 some (r, kind, aA, bA, fA, cA) else none else none else none else none
def EM (N : Nat) (b : af) (number : Int) (next : T56) : T56 := fun i5 => bif decide (i5 < b.2.2.2.1.length) then bif decide (0 ≤ i5) then
 bif decide (i5 < b.2.2.2.1.length) then bif (b.2.2.2.1.getD i5.toNat bU).1.1 == number then some i5 else next (i64.wrap (i5 + 1)) else none else none else
 some (-1)
def Za (N : Nat) (b : af) (number : Int) : T52 := lp (fun _ => none) fun next => EM N b number next
def adv (N : Nat) (I0 : af → Int → Nat → Int → Option Int) (b : af) (number : Int) : Option Int := I0 b number N 0
def FY (N : Nat) (b : af) (number : Int) : Option Int := adv N (Za N) b number
def QG (N : Nat) (a : List Txt) (b : List Txt) (next : T55) : T55 := fun i5 => bif decide (i5 < a.length) then bif decide (0 ≤ i5) then
 bif decide (i5 < a.length) then bif decide (0 ≤ i5) then bif decide (i5 < b.length) then bif !a.getD i5.toNat [] == b.getD i5.toNat [] then some false else
 next (i64.wrap (i5 + 1)) else none else none else none else none else some true
def aed (N : Nat) (a : List Txt) (b : List Txt) : T51 := lp (fun _ => none) fun next => QG N a b next
def alP (N : Nat) (I0 : T16) (a : List Txt) (b : List Txt) : Option Bool := bif (a.length : Int) != (b.length : Int) then some false else I0 a b N 0
def ae3 (N : Nat) (a : List Txt) (b : List Txt) : Option Bool := alP N (aed N) a b
def PQ (N : Nat) (a : aK) (b : aK) (next : T55) : T55 := fun i5 => bif decide (i5 < a.2.2.2.1.length) then bif decide (0 ≤ i5) then
 bif decide (i5 < a.2.2.2.1.length) then bif decide (0 ≤ i5) then bif decide (i5 < b.2.2.2.1.length) then
 bif !((a.2.2.2.1.getD i5.toNat bY).1 == (b.2.2.2.1.getD i5.toNat bY).1 && ((a.2.2.2.1.getD i5.toNat bY).2.1 == (b.2.2.2.1.getD i5.toNat bY).2.1 && ((a.2.2.2.1.getD i5.toNat bY).2.2 == (b.2.2.2.1.getD i5.toNat bY).2.2 && true))) then
 some false else next (i64.wrap (i5 + 1)) else none else none else none else none else some true
def YC (N : Nat) (a : aK) (b : aK) : T51 := lp (fun _ => none) fun next => PQ N a b next
def apF (N : Nat) (I0 : aK → aK → Nat → Int → Option Bool) (a : aK) (b : aK) : Option Bool := bif a.1 != b.1 then some false else
 bif a.2.1 != b.2.1 then some false else bif (a.2.2.2.1.length : Int) != (b.2.2.2.1.length : Int) then some false else
 ob (F.ae3 N a.2.2.1 b.2.2.1) false fun r => bif !r then some false else ob (F.ae3 N a.2.2.2.2.1 b.2.2.2.2.1) false fun aA => bif !aA then some false else
 ob (F.ae3 N a.2.2.2.2.2 b.2.2.2.2.2) false fun bA => bif !bA then some false else I0 a b N 0
def aic (N : Nat) (a : aK) (b : aK) : Option Bool := apF N (YC N) a b
def QF (N : Nat) (b : af) (x : List Txt) (y : List Txt) (next : T55) : T55 := fun i7 => bif decide (i7 < x.length) then bif decide (0 ≤ i7) then
 bif decide (i7 < x.length) then ob (F.aju N b (x.getD i7.toNat []) y) false fun r => bif r then some true else next (i64.wrap (i7 + 1)) else none else none
 else some false
def aeX (N : Nat) (b : af) (x : List Txt) (y : List Txt) : T51 := lp (fun _ => none) fun next => QF N b x y next
def an2 (N : Nat) (I0 : af → (List Txt) → (List Txt) → Nat → Int → Option Bool) (b : af) (x : List Txt) (y : List Txt) : Option Bool := I0 b x y N 0
def adX (N : Nat) (b : af) (x : List Txt) (y : List Txt) : Option Bool := an2 N (aeX N) b x y
def Ef (N : Nat) (a : List Txt) (b : List Txt) (next : T53) : T53 := fun n5 i6 => bif decide (i6 < b.length) then bif decide (0 ≤ i6) then
 bif decide (i6 < b.length) then ob (F.xw N a (b.getD i6.toNat [])) false fun r => bif !r then next (i64.wrap (n5 + 1)) (i64.wrap (i6 + 1)) else
 next n5 (i64.wrap (i6 + 1)) else none else none else some n5
def ac9 (N : Nat) (a : List Txt) (b : List Txt) : T48 := lp (fun _ _ => none) fun next => Ef N a b next
def anr (N : Nat) (I0 : (List Txt) → (List Txt) → Nat → Int → Int → Option Int) (a : List Txt) (b : List Txt) : Option Int := I0 a b N (a.length : Int) 0
def aaZ (N : Nat) (a : List Txt) (b : List Txt) : Option Int := anr N (ac9 N) a b
def Jj (N : Nat) (b : af) (w : aK) (next : T56) : T56 := fun i5 => bif decide (i5 < w.2.2.2.1.length) then bif w.2.1 == 1 then
 bif decide (0 ≤ i5) then bif decide (i5 < w.2.2.2.1.length) then ob (F.xR N b (w.2.2.2.1.getD i5.toNat bY).1) (Int.ofNat 0) fun aA =>
 bif decide (0 ≤ aA) then bif decide (aA < b.2.1.length) then bif decide (0 ≤ i5) then bif decide (i5 < w.2.2.2.1.length) then
 bif (w.2.2.2.1.getD i5.toNat bY).2.1 != 2 then ob (F.uN N (b.2.1.getD aA.toNat aJ).2.2.2.2 w.2.2.1) false fun bA => bif !bA then some 8 else
 bif decide (0 ≤ i5) then bif decide (i5 < w.2.2.2.1.length) then bif (w.2.2.2.1.getD i5.toNat bY).2.1 == 2 then
 ob (F.adX N b w.2.2.1 (b.2.1.getD aA.toNat aJ).2.2.2.2) false fun fA => bif fA then some 8 else bif decide (0 ≤ i5) then
 bif decide (i5 < w.2.2.2.1.length) then bif (w.2.2.2.1.getD i5.toNat bY).2.1 == 2 then
 ob (F.aaZ N (b.2.1.getD aA.toNat aJ).2.2.2.2 w.2.2.1) (Int.ofNat 0) fun cA => bif decide (cA > 8) then some 5 else next (i64.wrap (i5 + 1)) else
 next (i64.wrap (i5 + 1)) else none else none else bif decide (0 ≤ i5) then bif decide (i5 < w.2.2.2.1.length) then
 bif (w.2.2.2.1.getD i5.toNat bY).2.1 == 2 then ob (F.aaZ N (b.2.1.getD aA.toNat aJ).2.2.2.2 w.2.2.1) (Int.ofNat 0) fun nA => bif decide (nA > 8) then
 some 5 else next (i64.wrap (i5 + 1)) else next (i64.wrap (i5 + 1)) else none else none else none else none else bif decide (0 ≤ i5) then
 bif decide (i5 < w.2.2.2.1.length) then bif (w.2.2.2.1.getD i5.toNat bY).2.1 == 2 then
 ob (F.adX N b w.2.2.1 (b.2.1.getD aA.toNat aJ).2.2.2.2) false fun jA => bif jA then some 8 else bif decide (0 ≤ i5) then
 bif decide (i5 < w.2.2.2.1.length) then bif (w.2.2.2.1.getD i5.toNat bY).2.1 == 2 then
 ob (F.aaZ N (b.2.1.getD aA.toNat aJ).2.2.2.2 w.2.2.1) (Int.ofNat 0) fun oA => bif decide (oA > 8) then some 5 else next (i64.wrap (i5 + 1)) else
 next (i64.wrap (i5 + 1)) else none else none else bif decide (0 ≤ i5) then bif decide (i5 < w.2.2.2.1.length) then
 bif (w.2.2.2.1.getD i5.toNat bY).2.1 == 2 then ob (F.aaZ N (b.2.1.getD aA.toNat aJ).2.2.2.2 w.2.2.1) (Int.ofNat 0) fun kA => bif decide (kA > 8) then
 some 5 else next (i64.wrap (i5 + 1)) else
 next (i64.wrap (i5 + 1)) else none else none else none else none else none else none else none else none else none else none else some 0 else some 0
def Zx (N : Nat) (b : af) (w : aK) : T52 := lp (fun _ => none) fun next => Jj N b w next
def ao4 (N : Nat) (I0 : T33) (b : af) (w : aK) : Option Int := ob (F.adX N b w.2.2.1 w.2.2.1) false fun r => bif r then some 8 else I0 b w N 0
def al0 (N : Nat) (b : af) (w : aK) : Option Int := ao4 N (Zx N) b w
def QD (N : Nat) (b : af) (w : aK) (next : T56) : T56 := fun i5 => bif decide (i5 < w.2.2.2.1.length) then bif decide (0 ≤ i5) then
 bif decide (i5 < w.2.2.2.1.length) then ob (F.xR N b (w.2.2.2.1.getD i5.toNat bY).1) (Int.ofNat 0) fun r => bif decide (0 ≤ r) then
 bif decide (r < b.2.1.length) then bif decide (0 ≤ i5) then bif decide (i5 < w.2.2.2.1.length) then bif (w.2.2.2.1.getD i5.toNat bY).2.1 == 1 then
 bif decide ((b.2.1.getD r.toNat aJ).2.2.1 < (w.2.2.2.1.getD i5.toNat bY).2.2) then some 9 else bif (w.2.2.2.1.getD i5.toNat bY).2.1 == 2 then
 bif decide (i64.wrap ((b.2.1.getD r.toNat aJ).2.2.2.1 + (w.2.2.2.1.getD i5.toNat bY).2.2) > (b.2.1.getD r.toNat aJ).2.1) then some 10 else
 bif w.2.1 == 2 then bif decide ((b.2.1.getD r.toNat aJ).2.2.2.1 > 0) then some 11 else next (i64.wrap (i5 + 1)) else next (i64.wrap (i5 + 1)) else
 bif w.2.1 == 2 then bif decide ((b.2.1.getD r.toNat aJ).2.2.2.1 > 0) then some 11 else next (i64.wrap (i5 + 1)) else next (i64.wrap (i5 + 1)) else
 bif (w.2.2.2.1.getD i5.toNat bY).2.1 == 2 then
 bif decide (i64.wrap ((b.2.1.getD r.toNat aJ).2.2.2.1 + (w.2.2.2.1.getD i5.toNat bY).2.2) > (b.2.1.getD r.toNat aJ).2.1) then some 10 else
 bif w.2.1 == 2 then bif decide ((b.2.1.getD r.toNat aJ).2.2.2.1 > 0) then some 11 else next (i64.wrap (i5 + 1)) else next (i64.wrap (i5 + 1)) else
 bif w.2.1 == 2 then bif decide ((b.2.1.getD r.toNat aJ).2.2.2.1 > 0) then some 11 else next (i64.wrap (i5 + 1)) else
 next (i64.wrap (i5 + 1)) else none else none else none else none else none else none else some 0
def afj (N : Nat) (b : af) (w : aK) : T52 := lp (fun _ => none) fun next => QD N b w next
def am_ (N : Nat) (I0 : T33) (b : af) (w : aK) : Option Int := I0 b w N 0
def alf (N : Nat) (b : af) (w : aK) : Option Int := am_ N (afj N) b w
def P8 (N : Nat) (b : af) (w : aK) (next : T56) : T56 := fun i7 => bif decide (i7 < b.2.2.2.1.length) then bif decide (0 ≤ i7) then
 bif decide (i7 < b.2.2.2.1.length) then ob (F.aeJ N w (b.2.2.2.1.getD i7.toNat bU).1) false fun kA => bif kA then some 7 else
 next (i64.wrap (i7 + 1)) else none else none else ob (F.al0 N b w) (Int.ofNat 0) fun wB => bif wB != 0 then some wB else
 ob (F.alf N b w) (Int.ofNat 0) fun tA => some tA
def RD (N : Nat) (b : af) (w : aK) : T52 := lp (fun _ => none) fun next => P8 N b w next
def PG (N : Nat) (I0 : T33) (b : af) (w : aK) (next : T56) : T56 := fun i6 => bif decide (i6 < b.2.2.2.1.length) then ob (F.G6 N w) [] fun nA =>
 bif decide (0 ≤ i6) then bif decide (i6 < b.2.2.2.1.length) then ob (F.G6 N (b.2.2.2.1.getD i6.toNat bU).1) [] fun jA =>
 ob (F.QO N nA jA) false fun oA => bif oA then some 6 else next (i64.wrap (i6 + 1)) else none else none else I0 b w N 0
def afD (N : Nat) (b : af) (w : aK) : T52 := lp (fun _ => none) fun next => PG N (RD N) b w next
def aoO (N : Nat) (I1 : T33) (b : af) (w : aK) : Option Int := ob (F.UY N b) false fun r => bif !r then some 1 else ob (F.aii N w) false fun aA =>
 bif !aA then some 2 else ob (F.akb N b w) false fun bA => bif !bA then some 2 else ob (F.FY N b w.1) (Int.ofNat 0) fun fA => bif decide (fA ≥ 0) then
 bif decide (0 ≤ fA) then bif decide (fA < b.2.2.2.1.length) then ob (F.aic N (b.2.2.2.1.getD fA.toNat bU).1 w) false fun cA => bif cA then some 0 else
 some 3 else none else none else bif decide (w.1 ≤ b.2.2.2.2) then some 4 else bif decide ((b.2.2.2.1.length : Int) ≥ 6) then some 5 else I1 b w N 0
def amu (N : Nat) (b : af) (w : aK) : Option Int := aoO N (afD N) b w
def Hz (N : Nat) (list : List Txt) (name : Txt) (next : Int → Option (List Txt)) : Int → Option (List Txt) := fun k5 => bif decide (k5 < list.length) then
 bif decide (0 ≤ k5) then bif decide (k5 < list.length) then bif Op.bytesLess (list.getD k5.toNat []) name then next (i64.wrap (k5 + 1)) else
 bif decide (k5 < list.length) then bif decide (0 ≤ k5) then bif decide (k5 < list.length) then bif list.getD k5.toNat [] == name then some list else
 bif decide (0 ≤ k5) then bif decide (k5 ≤ list.length) then bif decide ((0 + (List.drop (Int.toNat 0) (List.take k5.toNat list)).length) * 16 ≤ lim) then
 bif decide ((([] ++ List.drop (Int.toNat 0) (List.take k5.toNat list)).length + [name].length) * 16 ≤ lim) then bif decide (0 ≤ k5) then
 bif decide (k5 ≤ list.length) then bif decide ((list.length : Int) ≤ (list.length : Int)) then
 bif decide ((([] ++ List.drop (Int.toNat 0) (List.take k5.toNat list) ++ [name]).length + (List.drop k5.toNat (List.take (list.length : Int).toNat list)).length) * 16 ≤ lim) then
 some ([] ++ List.drop (Int.toNat 0) (List.take k5.toNat list) ++ [name] ++ List.drop k5.toNat (List.take (list.length : Int).toNat list)) else none else none else none else none else none else none else none else none else none else none
 else bif decide (0 ≤ k5) then bif decide (k5 ≤ list.length) then bif decide ((0 + (List.drop (Int.toNat 0) (List.take k5.toNat list)).length) * 16 ≤ lim) then
 bif decide ((([] ++ List.drop (Int.toNat 0) (List.take k5.toNat list)).length + [name].length) * 16 ≤ lim) then bif decide (0 ≤ k5) then
 bif decide (k5 ≤ list.length) then bif decide ((list.length : Int) ≤ (list.length : Int)) then
 bif decide ((([] ++ List.drop (Int.toNat 0) (List.take k5.toNat list) ++ [name]).length + (List.drop k5.toNat (List.take (list.length : Int).toNat list)).length) * 16 ≤ lim) then
 some ([] ++ List.drop (Int.toNat 0) (List.take k5.toNat list) ++ [name] ++ List.drop k5.toNat (List.take (list.length : Int).toNat list)) else none else none else none else none else none else none else none else none else none else none
 else bif decide (k5 < list.length) then bif decide (0 ≤ k5) then bif decide (k5 < list.length) then bif list.getD k5.toNat [] == name then some list else
 bif decide (0 ≤ k5) then bif decide (k5 ≤ list.length) then bif decide ((0 + (List.drop (Int.toNat 0) (List.take k5.toNat list)).length) * 16 ≤ lim) then
 bif decide ((([] ++ List.drop (Int.toNat 0) (List.take k5.toNat list)).length + [name].length) * 16 ≤ lim) then bif decide (0 ≤ k5) then
 bif decide (k5 ≤ list.length) then bif decide ((list.length : Int) ≤ (list.length : Int)) then
 bif decide ((([] ++ List.drop (Int.toNat 0) (List.take k5.toNat list) ++ [name]).length + (List.drop k5.toNat (List.take (list.length : Int).toNat list)).length) * 16 ≤ lim) then
 some ([] ++ List.drop (Int.toNat 0) (List.take k5.toNat list) ++ [name] ++ List.drop k5.toNat (List.take (list.length : Int).toNat list)) else none else none else none else none else none else none else none else none else none else none
 else bif decide (0 ≤ k5) then bif decide (k5 ≤ list.length) then bif decide ((0 + (List.drop (Int.toNat 0) (List.take k5.toNat list)).length) * 16 ≤ lim) then
 bif decide ((([] ++ List.drop (Int.toNat 0) (List.take k5.toNat list)).length + [name].length) * 16 ≤ lim) then bif decide (0 ≤ k5) then
 bif decide (k5 ≤ list.length) then bif decide ((list.length : Int) ≤ (list.length : Int)) then
 bif decide ((([] ++ List.drop (Int.toNat 0) (List.take k5.toNat list) ++ [name]).length + (List.drop k5.toNat (List.take (list.length : Int).toNat list)).length) * 16 ≤ lim) then
 some ([] ++ List.drop (Int.toNat 0) (List.take k5.toNat list) ++ [name] ++ List.drop k5.toNat (List.take (list.length : Int).toNat list)) else none else none else none else none else none else none else none else none
def aeW (N : Nat) (list : List Txt) (name : Txt) : Nat → Int → Option (List Txt) := lp (fun _ => none) fun next => Hz N list name next
def aoB (N : Nat) (I0 : (List Txt) → Txt → Nat → Int → Option (List Txt)) (list : List Txt) (name : Txt) : Option (List Txt) := I0 list name N 0
def aaI (N : Nat) (list : List Txt) (name : Txt) : Option (List Txt) := aoB N (aeW N) list name
def tY (N : Nat) (qD : T41) (b0 : List Foe) (b2 : List Txt) (b3 : List dm) (b4 : Int) (w : aK) (lC : Int) (i5 : Int) (cA : Int) (aF : Txt) (jE : Int) (bF : Int) (next : T41) : T41 := fun cF eB =>
 bif decide (cF < w.2.2.1.length) then bif jE != 1 then bif decide (0 ≤ cA) then bif decide (cA < eB.length) then bif decide (0 ≤ cF) then
 bif decide (cF < w.2.2.1.length) then ob (F.aaI N (eB.getD cA.toNat aJ).2.2.2.2 (w.2.2.1.getD cF.toNat [])) [] fun nA => bif decide (0 ≤ cA) then
 bif decide (cA < eB.length) then
 let dF : List bi := eB.set cA.toNat ((eB.getD cA.toNat aJ).1, (eB.getD cA.toNat aJ).2.1, (eB.getD cA.toNat aJ).2.2.1, (eB.getD cA.toNat aJ).2.2.2.1, nA)
 next (i64.wrap (cF + 1)) dF else none else none else none else none else none else none else qD (i64.wrap (i5 + 1)) eB else qD (i64.wrap (i5 + 1)) eB
def rO (N : Nat) (qD : T41) (b0 : List Foe) (b2 : List Txt) (b3 : List dm) (b4 : Int) (w : aK) (lC : Int) (i5 : Int) (cA : Int) (aF : Txt) (jE : Int) (bF : Int) : T29 := lp (fun _ _ => none) fun next => tY N qD b0 b2 b3 b4 w lC i5 cA aF jE bF next
def zk (N : Nat) (I0 : Int → Int → Txt → Int → Int → Nat → Int → (List bi) → Option af) (b0 : List Foe) (b2 : List Txt) (b3 : List dm) (b4 : Int) (w : aK) (lC : Int) (next : T41) : T41 := fun i5 cB =>
 bif decide (i5 < w.2.2.2.1.length) then bif decide (0 ≤ i5) then bif decide (i5 < w.2.2.2.1.length) then
 ob (F.xR N (b0, cB, b2, b3, b4) (w.2.2.2.1.getD i5.toNat bY).1) (Int.ofNat 0) fun cA => bif (w.2.2.2.1.getD i5.toNat bY).2.1 == 1 then
 bif decide (0 ≤ cA) then bif decide (cA < cB.length) then bif decide (0 ≤ cA) then bif decide (cA < cB.length) then
 let yA : List bi := cB.set cA.toNat ((cB.getD cA.toNat aJ).1, (cB.getD cA.toNat aJ).2.1, i64.wrap ((cB.getD cA.toNat aJ).2.2.1 - (w.2.2.2.1.getD i5.toNat bY).2.2), (cB.getD cA.toNat aJ).2.2.2)
 bif (w.2.2.2.1.getD i5.toNat bY).2.1 == 2 then bif decide (0 ≤ cA) then bif decide (cA < yA.length) then bif decide (0 ≤ cA) then
 bif decide (cA < yA.length) then
 let eF : List bi := yA.set cA.toNat ((yA.getD cA.toNat aJ).1, (yA.getD cA.toNat aJ).2.1, (yA.getD cA.toNat aJ).2.2.1, i64.wrap ((yA.getD cA.toNat aJ).2.2.2.1 + (w.2.2.2.1.getD i5.toNat bY).2.2), (yA.getD cA.toNat aJ).2.2.2.2)
 I0 i5 cA ((w.2.2.2.1.getD i5.toNat bY).1) ((w.2.2.2.1.getD i5.toNat bY).2.1) ((w.2.2.2.1.getD i5.toNat bY).2.2) N 0 eF else none else none else none else none
 else
 I0 i5 cA ((w.2.2.2.1.getD i5.toNat bY).1) ((w.2.2.2.1.getD i5.toNat bY).2.1) ((w.2.2.2.1.getD i5.toNat bY).2.2) N 0 yA else none else none else none else none
 else bif (w.2.2.2.1.getD i5.toNat bY).2.1 == 2 then bif decide (0 ≤ cA) then bif decide (cA < cB.length) then bif decide (0 ≤ cA) then
 bif decide (cA < cB.length) then
 let fF : List bi := cB.set cA.toNat ((cB.getD cA.toNat aJ).1, (cB.getD cA.toNat aJ).2.1, (cB.getD cA.toNat aJ).2.2.1, i64.wrap ((cB.getD cA.toNat aJ).2.2.2.1 + (w.2.2.2.1.getD i5.toNat bY).2.2), (cB.getD cA.toNat aJ).2.2.2.2)
 I0 i5 cA ((w.2.2.2.1.getD i5.toNat bY).1) ((w.2.2.2.1.getD i5.toNat bY).2.1) ((w.2.2.2.1.getD i5.toNat bY).2.2) N 0 fF else none else none else none else none
 else I0 i5 cA ((w.2.2.2.1.getD i5.toNat bY).1) ((w.2.2.2.1.getD i5.toNat bY).2.1) ((w.2.2.2.1.getD i5.toNat bY).2.2) N 0 cB else none else none else
 ob (F.abf N w) rY fun jA => bif decide ((b3.length + [(jA, false)].length) * 120 ≤ lim) then some (b0, cB, b2, b3 ++ [(jA, false)], b4) else none
def ZO (N : Nat) (b0 : List Foe) (b2 : List Txt) (b3 : List dm) (b4 : Int) (w : aK) (lC : Int) : T29 := lp (fun _ _ => none) fun next => zk N (rO N next b0 b2 b3 b4 w lC) b0 b2 b3 b4 w lC next
def aef (N : Nat) (I1 : (List Foe) → (List Txt) → (List dm) → Int → aK → Int → Nat → Int → (List bi) → Option af) (b0 : List Foe) (b1 : List bi) (b2 : List Txt) (b3 : List dm) (b4 : Int) (w : aK) : Option af :=
 I1 b0 b2 b3 b4 w 0 N 0 b1
def acf (N : Nat) (b0 : List Foe) (b1 : List bi) (b2 : List Txt) (b3 : List dm) (b4 : Int) (w : aK) : Option af := aef N (ZO N) b0 b1 b2 b3 b4 w
def abd (N : Nat) (b : af) (w : aK) : Option (af × Int) := ob (F.amu N b w) (Int.ofNat 0) fun r => bif r == 1 then some (([], [], [], [], 0), 1) else
 ob (F.F7 N b) dB fun aA => ob (F.kR N r 2 4) false fun bA => bif bA then some (aA, r) else ob (F.FY N b w.1) (Int.ofNat 0) fun fA =>
 bif decide (fA ≥ 0) then some (aA, r) else bif r == 0 then ob (F.acf N aA.1 aA.2.1 aA.2.2.1 aA.2.2.2.1 w.1 w) dB fun cA => ob (F.F7 N cA) dB fun nA =>
 some (nA, r) else ob (F.F7 N (aA.1, aA.2.1, aA.2.2.1, aA.2.2.2.1, w.1)) dB fun jA => some (jA, r)
def m_ (N : Nat) : Nat → Int → Option Txt
 | 0, n => bif decide (n < 0) then none else bif decide (n < 10) then some (List.map Af [IntKind.u8.wrap (i64.wrap (48 + n))]) else none
 | m + 1, n => bif decide (n < 0) then ob (m_ N m (i64.wrap (0 - n))) [] fun r => bif decide (1 + r.length ≤ lim) then some ([45] ++ r) else none else
 bif decide (n < 10) then some (List.map Af [IntKind.u8.wrap (i64.wrap (48 + n))]) else ob (m_ N m (i64.wrap (n.tdiv 10))) [] fun aA =>
 bif decide (aA.length + (List.map Af [IntKind.u8.wrap (i64.wrap (48 + n.tmod 10))]).length ≤ lim) then
 some (aA ++ List.map Af [IntKind.u8.wrap (i64.wrap (48 + n.tmod 10))]) else none
def jO (N : Nat) (n : Int) : Option Txt := m_ N 64 n
def uV (N : Nat) (b : af) (code : Int) : Option (af × Txt) := ob (F.jO N code) [] fun r =>
 bif decide ([99, 111, 100, 101, 32].length + r.length ≤ lim) then some (b, [99, 111, 100, 101, 32] ++ r) else none
def akp (N : Nat) (b : af) (number : Int) : Option (af × Int) := ob (F.UY N b) false fun r => bif !r then some (([], [], [], [], 0), 1) else
 ob (F.F7 N b) dB fun aA => ob (F.FY N b number) (Int.ofNat 0) fun bA => bif decide (bA < 0) then some (aA, 3) else bif decide (0 ≤ bA) then
 bif decide (bA < aA.2.2.2.1.length) then
 let eD : List dm := List.set aA.2.2.2.1 bA.toNat ((aA.2.2.2.1.getD bA.toNat bU).1, true)
 some ((aA.1, aA.2.1, aA.2.2.1, eD, aA.2.2.2.2), 0) else none else none
def PI (N : Nat) (w : aK) (moved : Int) (next : T55) : T55 := fun i5 => bif decide (i5 < w.2.2.2.1.length) then bif decide (0 ≤ i5) then
 bif decide (i5 < w.2.2.2.1.length) then bif (w.2.2.2.1.getD i5.toNat bY).2.1 != 3 then bif decide (0 ≤ i5) then bif decide (i5 < w.2.2.2.1.length) then
 bif decide (moved > (w.2.2.2.1.getD i5.toNat bY).2.2) then some false else next (i64.wrap (i5 + 1)) else none else none else
 next (i64.wrap (i5 + 1)) else none else none else some true
def adp (N : Nat) (w : aK) (moved : Int) : T51 := lp (fun _ => none) fun next => PI N w moved next
def aqk (N : Nat) (I0 : aK → Int → Nat → Int → Option Bool) (w : aK) (moved : Int) : Option Bool := bif decide (moved < 0) then some false else
 I0 w moved N 0
def akZ (N : Nat) (w : aK) (moved : Int) : Option Bool := aqk N (adp N) w moved
def aql (N : Nat) (s : bi) (w : aK) (u : Use) (moved : Int) (done : Bool) : Option bi := bif u.2.1 == 1 then bif u.2.1 == 2 then bif w.2.1 == 2 then
 bif done then
 some (s.1, s.2.1, i64.wrap (i64.wrap (i64.wrap (s.2.2.1 + u.2.2) - moved) + moved), i64.wrap (i64.wrap (i64.wrap (s.2.2.2.1 - moved) - u.2.2) + moved), [])
 else
 some (s.1, s.2.1, i64.wrap (i64.wrap (i64.wrap (s.2.2.1 + u.2.2) - moved) + moved), i64.wrap (i64.wrap (i64.wrap (s.2.2.2.1 - moved) - u.2.2) + moved), s.2.2.2.2)
 else
 some (s.1, s.2.1, i64.wrap (i64.wrap (i64.wrap (s.2.2.1 + u.2.2) - moved) + moved), i64.wrap (i64.wrap (i64.wrap (s.2.2.2.1 - moved) - u.2.2) + moved), s.2.2.2.2)
 else bif w.2.1 == 2 then bif done then some (s.1, s.2.1, i64.wrap (i64.wrap (s.2.2.1 + u.2.2) - moved), i64.wrap (s.2.2.2.1 - moved), []) else
 some (s.1, s.2.1, i64.wrap (i64.wrap (s.2.2.1 + u.2.2) - moved), i64.wrap (s.2.2.2.1 - moved), s.2.2.2.2) else
 some (s.1, s.2.1, i64.wrap (i64.wrap (s.2.2.1 + u.2.2) - moved), i64.wrap (s.2.2.2.1 - moved), s.2.2.2.2) else bif u.2.1 == 2 then bif w.2.1 == 2 then
 bif done then some (s.1, s.2.1, i64.wrap (s.2.2.1 + moved), i64.wrap (i64.wrap (s.2.2.2.1 - u.2.2) + moved), []) else
 some (s.1, s.2.1, i64.wrap (s.2.2.1 + moved), i64.wrap (i64.wrap (s.2.2.2.1 - u.2.2) + moved), s.2.2.2.2) else
 some (s.1, s.2.1, i64.wrap (s.2.2.1 + moved), i64.wrap (i64.wrap (s.2.2.2.1 - u.2.2) + moved), s.2.2.2.2) else bif w.2.1 == 2 then bif done then
 some (s.1, s.2.1, s.2.2.1, s.2.2.2.1, []) else some s else some s
def Hg (N : Nat) (b : af) (moved : Int) (done : Bool) (aA : af) (bA : Int) (fD : Int) (bC : Int) (uB : Int) (cC : List Txt) (sA : List Use) (dC : List Txt) (eC : List Txt) (next : T25) : T25 := fun wG rC =>
 bif decide (wG < sA.length) then bif decide (0 ≤ wG) then bif decide (wG < sA.length) then ob (F.xR N b (sA.getD wG.toNat bY).1) (Int.ofNat 0) fun oA =>
 bif decide (0 ≤ oA) then bif decide (oA < rC.length) then bif decide (0 ≤ wG) then bif decide (wG < sA.length) then
 ob (F.aql N (rC.getD oA.toNat aJ) (bC, uB, cC, sA, dC, eC) (sA.getD wG.toNat bY) moved done) aJ fun kA => bif decide (0 ≤ oA) then
 bif decide (oA < rC.length) then
 let tE : List bi := rC.set oA.toNat kA
 next (i64.wrap (wG + 1)) tE else none else none else none else none else none else none else none else none else bif decide (0 ≤ bA) then
 bif decide (bA ≤ aA.2.2.2.1.length) then bif decide ((0 + (List.drop (Int.toNat 0) (List.take bA.toNat aA.2.2.2.1)).length) * 120 ≤ lim) then
 bif decide (0 ≤ i64.wrap (bA + 1)) then bif decide (i64.wrap (bA + 1) ≤ (aA.2.2.2.1.length : Int)) then
 bif decide ((aA.2.2.2.1.length : Int) ≤ (aA.2.2.2.1.length : Int)) then
 bif decide ((([] ++ List.drop (Int.toNat 0) (List.take bA.toNat aA.2.2.2.1)).length + (List.drop (i64.wrap (bA + 1)).toNat (List.take (aA.2.2.2.1.length : Int).toNat aA.2.2.2.1)).length) * 120 ≤ lim) then
 ob (F.F7 N (aA.1, rC, aA.2.2.1, [] ++ List.drop (Int.toNat 0) (List.take bA.toNat aA.2.2.2.1) ++ List.drop (i64.wrap (bA + 1)).toNat (List.take (aA.2.2.2.1.length : Int).toNat aA.2.2.2.1), aA.2.2.2.2)) dB fun wB =>
 some (wB, 0) else none else none else none else none else none else none else none
def aeU (N : Nat) (b : af) (moved : Int) (done : Bool) (aA : af) (bA : Int) (fD : Int) (bC : Int) (uB : Int) (cC : List Txt) (sA : List Use) (dC : List Txt) (eC : List Txt) : T18 := lp (fun _ _ => none) fun next => Hg N b moved done aA bA fD bC uB cC sA dC eC next
def al4 (N : Nat) (I0 : af → Int → Bool → af → Int → Int → Int → Int → (List Txt) → (List Use) → (List Txt) → (List Txt) → Nat → Int → (List bi) → Option (af × Int)) (b : af) (number : Int) (moved : Int) (done : Bool) : Option (af × Int) :=
 ob (F.UY N b) false fun r => bif !r then some (([], [], [], [], 0), 1) else ob (F.F7 N b) dB fun aA => ob (F.FY N b number) (Int.ofNat 0) fun bA =>
 bif decide (bA < 0) then some (aA, 3) else bif decide (0 ≤ bA) then bif decide (bA < b.2.2.2.1.length) then
 ob (F.akZ N (b.2.2.2.1.getD bA.toNat bU).1 moved) false fun fA => bif !fA then some (aA, 2) else bif decide (0 ≤ bA) then
 bif decide (bA < b.2.2.2.1.length) then bif !(b.2.2.2.1.getD bA.toNat bU).2 then some (aA, 12) else
 I0 b moved done aA bA 0 ((b.2.2.2.1.getD bA.toNat bU).1.1) ((b.2.2.2.1.getD bA.toNat bU).1.2.1) ((b.2.2.2.1.getD bA.toNat bU).1.2.2.1) ((b.2.2.2.1.getD bA.toNat bU).1.2.2.2.1) ((b.2.2.2.1.getD bA.toNat bU).1.2.2.2.2.1) ((b.2.2.2.1.getD bA.toNat bU).1.2.2.2.2.2) N 0 aA.2.1 else none else none else none else none
def aez (N : Nat) (b : af) (number : Int) (moved : Int) (done : Bool) : Option (af × Int) := al4 N (aeU N) b number moved done
def AA (N : Nat) (list : List Txt) (gG : Txt) (next : T54) : T54 := fun zA i6 => bif decide (i6 < list.length) then bif decide (i6 > 0) then
 bif decide (zA.length + gG.length ≤ lim) then bif decide (0 ≤ i6) then bif decide (i6 < list.length) then
 bif decide ((zA ++ gG).length + (list.getD i6.toNat []).length ≤ lim) then
 next (zA ++ gG ++ list.getD i6.toNat []) (i64.wrap (i6 + 1)) else none else none else none else none else bif decide (0 ≤ i6) then
 bif decide (i6 < list.length) then bif decide (zA.length + (list.getD i6.toNat []).length ≤ lim) then
 next (zA ++ list.getD i6.toNat []) (i64.wrap (i6 + 1)) else none else none else none else bif zA == [] then some [45] else some zA
def KE (N : Nat) (list : List Txt) (gG : Txt) : T49 := lp (fun _ _ => none) fun next => AA N list gG next
def avC (N : Nat) (I0 : (List Txt) → Txt → Nat → Txt → Int → Option Txt) (list : List Txt) (gG : Txt) : Option Txt := I0 list gG N [] 0
def Dl (N : Nat) (list : List Txt) (gG : Txt) : Option Txt := avC N (KE N) list gG
def aaJ (N : Nat) (b : af) (name : Txt) : Option Txt := ob (F.xR N b name) (Int.ofNat 0) fun r => bif decide (r < 0) then some [110, 111, 110, 101] else
 bif decide (0 ≤ r) then bif decide (r < b.2.1.length) then ob (F.jO N (b.2.1.getD r.toNat aJ).2.2.1) [] fun aA => bif decide (aA.length + 1 ≤ lim) then
 ob (F.jO N (b.2.1.getD r.toNat aJ).2.2.2.1) [] fun bA => bif decide ((aA ++ [45]).length + bA.length ≤ lim) then
 bif decide ((aA ++ [45] ++ bA).length + [32, 111, 102, 32].length ≤ lim) then ob (F.jO N (b.2.1.getD r.toNat aJ).2.1) [] fun fA =>
 bif decide ((aA ++ [45] ++ bA ++ [32, 111, 102, 32]).length + fA.length ≤ lim) then
 bif decide ((aA ++ [45] ++ bA ++ [32, 111, 102, 32] ++ fA).length + 1 ≤ lim) then ob (F.Dl N (b.2.1.getD r.toNat aJ).2.2.2.2 [44]) [] fun cA =>
 bif decide ((aA ++ [45] ++ bA ++ [32, 111, 102, 32] ++ fA ++ [32]).length + cA.length ≤ lim) then
 some (aA ++ [45] ++ bA ++ [32, 111, 102, 32] ++ fA ++ [32] ++ cA) else none else none else none else none else none else none else none else none
def OD (N : Nat) (b : af) (valve : Txt) (next : T56) : T56 := fun i5 => bif decide (i5 < b.2.2.2.1.length) then bif decide (0 ≤ i5) then
 bif decide (i5 < b.2.2.2.1.length) then bif !(b.2.2.2.1.getD i5.toNat bU).2 then bif decide (0 ≤ i5) then bif decide (i5 < b.2.2.2.1.length) then
 ob (F.xw N (b.2.2.2.1.getD i5.toNat bU).1.2.2.2.2.1 valve) false fun aA => bif aA then bif decide (0 ≤ i5) then bif decide (i5 < b.2.2.2.1.length) then
 some ((b.2.2.2.1.getD i5.toNat bU).1.1) else none else none else next (i64.wrap (i5 + 1)) else none else none else
 next (i64.wrap (i5 + 1)) else none else none else some 0
def ac2 (N : Nat) (b : af) (valve : Txt) : T52 := lp (fun _ => none) fun next => OD N b valve next
def apa (N : Nat) (I0 : T37) (b : af) (valve : Txt) : Option Int := ob (F.UY N b) false fun r => bif !r then some 0 else I0 b valve N 0
def ajY (N : Nat) (b : af) (valve : Txt) : Option Int := apa N (ac2 N) b valve
def OQ (N : Nat) (b : af) (valve : Txt) (next : T34) : T34 := fun i6 iB => bif decide (i6 < b.2.2.2.1.length) then bif decide (0 ≤ i6) then
 bif decide (i6 < b.2.2.2.1.length) then ob (F.xw N (b.2.2.2.1.getD i6.toNat bU).1.2.2.2.2.2 valve) false fun aA => bif aA then bif decide (0 ≤ i6) then
 bif decide (i6 < b.2.2.2.1.length) then bif decide ((iB.length + [(b.2.2.2.1.getD i6.toNat bU).1.1].length) * 8 ≤ lim) then
 next (i64.wrap (i6 + 1)) (iB ++ [(b.2.2.2.1.getD i6.toNat bU).1.1]) else none else none else none else next (i64.wrap (i6 + 1)) iB else none else none else
 some iB
def afs (N : Nat) (b : af) (valve : Txt) : T22 := lp (fun _ _ => none) fun next => OQ N b valve next
def akT (N : Nat) (I0 : af → Txt → Nat → Int → (List Int) → Option (List Int)) (b : af) (valve : Txt) : Option (List Int) :=
 ob (F.UY N b) false fun r => bif !r then some [] else I0 b valve N 0 []
def ajE (N : Nat) (b : af) (valve : Txt) : Option (List Int) := akT N (afs N) b valve
def Jp (N : Nat) (list : List Int) (next : T47) : T47 := fun i4 hA => bif decide (i4 < list.length) then bif decide (0 ≤ i4) then
 bif decide (i4 < list.length) then ob (F.jO N (list.getD i4.toNat (Int.ofNat 0))) [] fun r => bif decide ((hA.length + 1) * 16 ≤ lim) then
 next (i64.wrap (i4 + 1)) (hA ++ [r]) else none else none else none else ob (F.Dl N hA [44]) [] fun aA => some aA
def Yr (N : Nat) (list : List Int) : T38 := lp (fun _ _ => none) fun next => Jp N list next
def adl (N : Nat) (I0 : (List Int) → Nat → Int → (List Txt) → Option Txt) (list : List Int) : Option Txt := I0 list N 0 []
def XM (N : Nat) (list : List Int) : Option Txt := adl N (Yr N) list
def Xd (N : Nat) (b : af) (ws : List Txt) : Option (af × Txt) := bif decide (0 < (ws.length : Int)) then
 bif ws.getD (Int.toNat 0) [] == [102, 111, 101] && (ws.length : Int) == 3 then ob (F.ZT N b ws) (dB, []) fun r => some r else
 bif decide (0 < (ws.length : Int)) then bif ws.getD (Int.toNat 0) [] == [115, 112, 111, 116] && (ws.length : Int) == 5 then
 ob (F.abB N b ws) (dB, []) fun aA => some aA else bif decide (0 < (ws.length : Int)) then
 bif ws.getD (Int.toNat 0) [] == [118, 97, 108, 118, 101, 115] && (ws.length : Int) == 2 then ob (F.F7 N b) dB fun bA =>
 bif decide (1 < (ws.length : Int)) then ob (F.Sm N (ws.getD (Int.toNat 1) [])) [] fun fA => ob (F.Gg N b (bA.1, bA.2.1, fA, bA.2.2.2)) (dB, []) fun cA =>
 some cA else none else bif decide (0 < (ws.length : Int)) then bif ws.getD (Int.toNat 0) [] == [109, 111, 118, 101] && (ws.length : Int) == 6 then
 bif decide (1 < (ws.length : Int)) then bif decide (2 ≤ (ws.length : Int)) then bif decide ((ws.length : Int) ≤ (ws.length : Int)) then
 ob (F.Tf N 1 (ws.getD (Int.toNat 1) []) (List.drop (Int.toNat 2) (List.take (ws.length : Int).toNat ws))) rY fun nA =>
 ob (F.abd N b nA) (dB, Int.ofNat 0) fun jA => ob (F.uV N jA.1 jA.2) (dB, []) fun oA => some oA else none else none else none else
 bif decide (0 < (ws.length : Int)) then bif ws.getD (Int.toNat 0) [] == [99, 108, 101, 97, 110] && (ws.length : Int) == 5 then
 bif decide (1 ≤ (ws.length : Int)) then bif decide ((ws.length : Int) ≤ (ws.length : Int)) then
 ob (F.Tf N 2 [45] (List.drop (Int.toNat 1) (List.take (ws.length : Int).toNat ws))) rY fun kA => ob (F.abd N b kA) (dB, Int.ofNat 0) fun wB =>
 ob (F.uV N wB.1 wB.2) (dB, []) fun tA => some tA else none else none else bif decide (0 < (ws.length : Int)) then
 bif ws.getD (Int.toNat 0) [] == [112, 101, 114, 109, 105, 116] && (ws.length : Int) == 5 then bif decide (1 ≤ (ws.length : Int)) then
 bif decide ((ws.length : Int) ≤ (ws.length : Int)) then ob (F.Tf N 3 [45] (List.drop (Int.toNat 1) (List.take (ws.length : Int).toNat ws))) rY fun aB =>
 ob (F.abd N b aB) (dB, Int.ofNat 0) fun hB => ob (F.uV N hB.1 hB.2) (dB, []) fun lB => some lB else none else none else
 bif decide (0 < (ws.length : Int)) then bif ws.getD (Int.toNat 0) [] == [115, 116, 111, 112] && (ws.length : Int) == 2 then
 bif decide (1 < (ws.length : Int)) then ob (F.zX N (ws.getD (Int.toNat 1) [])) (Int.ofNat 0) fun rD => ob (F.akp N b rD) (dB, Int.ofNat 0) fun gC =>
 ob (F.uV N gC.1 gC.2) (dB, []) fun uE => some uE else none else bif decide (0 < (ws.length : Int)) then
 bif ws.getD (Int.toNat 0) [] == [111, 118, 101, 114] && (ws.length : Int) == 3 then bif decide (1 < (ws.length : Int)) then
 ob (F.zX N (ws.getD (Int.toNat 1) [])) (Int.ofNat 0) fun cH => bif decide (2 < (ws.length : Int)) then
 ob (F.zX N (ws.getD (Int.toNat 2) [])) (Int.ofNat 0) fun gD => ob (F.aez N b cH gD false) (dB, Int.ofNat 0) fun sD =>
 ob (F.uV N sD.1 sD.2) (dB, []) fun dH => some dH else none else none else bif decide (0 < (ws.length : Int)) then
 bif ws.getD (Int.toNat 0) [] == [99, 108, 101, 97, 110, 101, 100] && (ws.length : Int) == 2 then bif decide (1 < (ws.length : Int)) then
 ob (F.zX N (ws.getD (Int.toNat 1) [])) (Int.ofNat 0) fun eH => ob (F.aez N b eH 0 true) (dB, Int.ofNat 0) fun gF =>
 ob (F.uV N gF.1 gF.2) (dB, []) fun fH => some fH else none else bif decide (0 < (ws.length : Int)) then
 bif ws.getD (Int.toNat 0) [] == [115, 104, 111, 119] && (ws.length : Int) == 2 then bif decide (1 < (ws.length : Int)) then
 ob (F.aaJ N b (ws.getD (Int.toNat 1) [])) [] fun vE => some (b, vE) else none else bif decide (0 < (ws.length : Int)) then
 bif ws.getD (Int.toNat 0) [] == [118, 97, 108, 118, 101] && (ws.length : Int) == 2 then bif decide (1 < (ws.length : Int)) then
 ob (F.ajY N b (ws.getD (Int.toNat 1) [])) (Int.ofNat 0) fun gH => ob (F.jO N gH) [] fun hF => bif decide (hF.length + 1 ≤ lim) then
 bif decide (1 < (ws.length : Int)) then ob (F.ajE N b (ws.getD (Int.toNat 1) [])) [] fun hH => ob (F.XM N hH) [] fun iF =>
 bif decide ((hF ++ [32]).length + iF.length ≤ lim) then some (b, hF ++ [32] ++ iF) else none else none else none else none else
 some (b, [98, 97, 100]) else none else none else none else none else none else none else none else none else none else none else none
def Bc (N : Nat) (sC : List Txt) (next : T7) : T7 := fun zA i6 vB hG iG jG hD => bif decide (i6 < sC.length) then bif decide (0 ≤ i6) then
 bif decide (i6 < sC.length) then ob (F.Oa N (sC.getD i6.toNat []) 32) [] fun aA => ob (F.Xd N (vB, hG, iG, jG, hD) aA) (dB, []) fun bA =>
 bif decide (zA.length + bA.2.length ≤ lim) then bif decide ((zA ++ bA.2).length + [10].length ≤ lim) then
 next (zA ++ bA.2 ++ [10]) (i64.wrap (i6 + 1)) bA.1.1 bA.1.2.1 bA.1.2.2.1 bA.1.2.2.2.1 bA.1.2.2.2.2 else none else none else none else none else some zA
def CV (N : Nat) (sC : List Txt) : T6 := lp (fun _ _ _ _ _ _ _ => none) fun next => Bc N sC next
def anG (N : Nat) (I0 : (List Txt) → Nat → Txt → Int → (List Foe) → (List bi) → (List Txt) → (List dm) → Int → Option Txt) (text : Txt) : Option Txt :=
 ob (F.Oa N text 10) [] fun r => bif decide (0 ≤ i64.wrap ((r.length : Int) - 1)) then bif decide (i64.wrap ((r.length : Int) - 1) < (r.length : Int)) then
 bif r.getD (i64.wrap ((r.length : Int) - 1)).toNat [] == [] then bif decide (0 ≤ i64.wrap ((r.length : Int) - 1)) then
 bif decide (i64.wrap ((r.length : Int) - 1) ≤ (r.length : Int)) then bif decide ((text.length : Int) > 10000) then
 some [116, 111, 111, 32, 108, 111, 110, 103, 10] else
 bif decide (((List.drop (Int.toNat 0) (List.take (i64.wrap ((r.length : Int) - 1)).toNat r)).length : Int) > 200) then
 some [116, 111, 111, 32, 108, 111, 110, 103, 10] else
 I0 (List.drop (Int.toNat 0) (List.take (i64.wrap ((r.length : Int) - 1)).toNat r)) N [] 0 [] [] [] [] 0 else none else none else
 bif decide ((text.length : Int) > 10000) then some [116, 111, 111, 32, 108, 111, 110, 103, 10] else bif decide ((r.length : Int) > 200) then
 some [116, 111, 111, 32, 108, 111, 110, 103, 10] else I0 r N [] 0 [] [] [] [] 0 else none else none
def aaG (N : Nat) (text : Txt) : Option Txt := anG N (CV N) text
def anD (N : Nat) (s : List Foe) : Option (List Foe) := bif Xp s then both (some []) (bif decide ((0 + s.length) * 32 ≤ lim) then some ([] ++ s) else none)
 else bif decide ((0 + s.length) * 32 ≤ lim) then some ([] ++ s) else none
def U3 (N : Nat) (s : List Txt) : Option (List Txt) := bif Xp s then both (some []) (bif decide ((0 + s.length) * 16 ≤ lim) then some ([] ++ s) else none)
 else bif decide ((0 + s.length) * 16 ≤ lim) then some ([] ++ s) else none
def apk (N : Nat) (s : List Use) : Option (List Use) := bif Xp s then both (some []) (bif decide ((0 + s.length) * 32 ≤ lim) then some ([] ++ s) else none)
 else bif decide ((0 + s.length) * 32 ≤ lim) then some ([] ++ s) else none
def ac5 (N : Nat) (w : aK) : Option aK := ob (F.U3 N w.2.2.1) [] fun r => ob (F.apk N w.2.2.2.1) [] fun aA => ob (F.U3 N w.2.2.2.2.1) [] fun bA =>
 ob (F.U3 N w.2.2.2.2.2) [] fun fA => some (w.1, w.2.1, r, aA, bA, fA)
def Ql (N : Nat) (b : af) (r : List Foe) (aA : List Txt) (tB : Int) (xB : List bi) (iI : Int) (next : T40) : T40 := fun iH iD =>
 bif decide (iH < iI) then bif decide (0 ≤ iH) then bif decide (iH < b.2.2.2.1.length) then ob (F.ac5 N (b.2.2.2.1.getD iH.toNat bU).1) rY fun fA =>
 bif decide ((iD.length + [(fA, (b.2.2.2.1.getD iH.toNat bU).2)].length) * 120 ≤ lim) then
 next (i64.wrap (iH + 1)) (iD ++ [(fA, (b.2.2.2.1.getD iH.toNat bU).2)]) else none else none else none else some (r, xB, aA, iD, b.2.2.2.2)
def QS (N : Nat) (b : af) (r : List Foe) (aA : List Txt) (tB : Int) (xB : List bi) (iI : Int) : T28 := lp (fun _ _ => none) fun next => Ql N b r aA tB xB iI next
def OJ (N : Nat) (I0 : af → (List Foe) → (List Txt) → Int → (List bi) → Int → Nat → Int → (List dm) → Option af) (b : af) (r : List Foe) (aA : List Txt) (jI : Int) (tB : Int) (next : T41) : T41 := fun wE xB =>
 bif decide (wE < jI) then bif decide (0 ≤ wE) then bif decide (wE < b.2.1.length) then ob (F.U3 N (b.2.1.getD wE.toNat aJ).2.2.2.2) [] fun bA =>
 bif decide ((xB.length + [((b.2.1.getD wE.toNat aJ).1, (b.2.1.getD wE.toNat aJ).2.1, (b.2.1.getD wE.toNat aJ).2.2.1, (b.2.1.getD wE.toNat aJ).2.2.2.1, bA)].length) * 64 ≤ lim) then
 next (i64.wrap (wE + 1)) (xB ++ [((b.2.1.getD wE.toNat aJ).1, (b.2.1.getD wE.toNat aJ).2.1, (b.2.1.getD wE.toNat aJ).2.2.1, (b.2.1.getD wE.toNat aJ).2.2.2.1, bA)]) else none else none else none
 else I0 b r aA tB xB (b.2.2.2.1.length : Int) N 0 []
def aeK (N : Nat) (b : af) (r : List Foe) (aA : List Txt) (jI : Int) (tB : Int) : T29 := lp (fun _ _ => none) fun next => OJ N (QS N) b r aA jI tB next
def ak4 (N : Nat) (I1 : af → (List Foe) → (List Txt) → Int → Int → Nat → Int → (List bi) → Option af) (b : af) : Option af :=
 ob (F.anD N b.1) [] fun r => ob (F.U3 N b.2.2.1) [] fun aA => I1 b r aA (b.2.1.length : Int) 0 N 0 []
def abZ (N : Nat) (b : af) : Option af := ak4 N (aeK N) b
def mJ (N : Nat) (n : Int) (low : Int) (high : Int) : Option Bool := bif decide (n ≥ low) then some (decide (n ≤ high)) else some false
def Ec (N : Nat) (s : Txt) (next : T55) : T55 := fun i3 => bif decide (i3 < s.length) then bif decide (0 ≤ i3) then bif decide (i3 < s.length) then
 bif decide (((s.getD i3.toNat 0).toNat : Int) ≥ 97) then bif decide (((s.getD i3.toNat 0).toNat : Int) ≤ 122) then next (i64.wrap (i3 + 1)) else
 bif decide (((s.getD i3.toNat 0).toNat : Int) ≥ 48) then bif decide (((s.getD i3.toNat 0).toNat : Int) ≤ 57) then next (i64.wrap (i3 + 1)) else
 bif !((s.getD i3.toNat 0).toNat : Int) == 45 then some false else next (i64.wrap (i3 + 1)) else bif !((s.getD i3.toNat 0).toNat : Int) == 45 then some false
 else next (i64.wrap (i3 + 1)) else bif decide (((s.getD i3.toNat 0).toNat : Int) ≥ 48) then bif decide (((s.getD i3.toNat 0).toNat : Int) ≤ 57) then
 next (i64.wrap (i3 + 1)) else bif !((s.getD i3.toNat 0).toNat : Int) == 45 then some false else next (i64.wrap (i3 + 1)) else
 bif !((s.getD i3.toNat 0).toNat : Int) == 45 then some false else next (i64.wrap (i3 + 1)) else none else none else some true
def Yv (N : Nat) (s : Txt) : T51 := lp (fun _ => none) fun next => Ec N s next
def adF (N : Nat) (I0 : T46) (s : Txt) : Option Bool := ob (F.mJ N (s.length : Int) 1 8) false fun r => bif !r then some false else I0 s N 0
def Ir (N : Nat) (s : Txt) : Option Bool := adF N (Yv N) s
def Gm (N : Nat) (l : List Txt) (hC : Int) (next : T55) : T55 := fun sB => bif decide (sB < hC) then bif decide (0 ≤ sB) then
 bif decide (sB < l.length) then ob (F.Ir N (l.getD sB.toNat [])) false fun r => bif !r then some false else bif decide (sB > 0) then
 bif decide (0 ≤ i64.wrap (sB - 1)) then bif decide (i64.wrap (sB - 1) < (l.length : Int)) then
 bif !Op.bytesLess (l.getD (i64.wrap (sB - 1)).toNat []) (l.getD sB.toNat []) then some false else next (i64.wrap (sB + 1)) else none else none else
 next (i64.wrap (sB + 1)) else none else none else some true
def Y2 (N : Nat) (l : List Txt) (hC : Int) : T51 := lp (fun _ => none) fun next => Gm N l hC next
def adw (N : Nat) (I0 : (List Txt) → Int → Nat → Int → Option Bool) (l : List Txt) (most : Int) : Option Bool := bif decide ((l.length : Int) > most) then
 some false else I0 l (l.length : Int) N 0
def yX (N : Nat) (l : List Txt) (most : Int) : Option Bool := adw N (Y2 N) l most
def ap3 (N : Nat) (f : Foe) (g : Foe) : Option Bool := bif Op.bytesLess f.1 g.1 then some true else bif f.1 == g.1 then some (Op.bytesLess f.2 g.2) else
 some false
def OV (N : Nat) (s : List Txt) (v : Txt) (t7 : Int) (next : T56) : T56 := fun t8 => bif decide (t8 < t7) then bif decide (0 ≤ t8) then
 bif decide (t8 < s.length) then bif v == s.getD t8.toNat [] then some t8 else next (i64.wrap (t8 + 1)) else none else none else some (-1)
def adB (N : Nat) (s : List Txt) (v : Txt) (t7 : Int) : T52 := lp (fun _ => none) fun next => OV N s v t7 next
def anN (N : Nat) (I0 : (List Txt) → Txt → Int → Nat → Int → Option Int) (s : List Txt) (v : Txt) : Option Int := I0 s v (s.length : Int) N 0
def aoo (N : Nat) (s : List Txt) (v : Txt) : Option Int := anN N (adB N) s v
def Gt (N : Nat) (s : List Txt) (v : Txt) : Option Bool := ob (F.aoo N s v) (Int.ofNat 0) fun r => some (decide (r ≥ 0))
def PR (N : Nat) (b : af) (x : List Txt) (y : List Txt) (kI : Int) (next : T55) : T55 := fun hC => bif decide (hC < kI) then bif decide (0 ≤ hC) then
 bif decide (hC < b.1.length) then ob (F.Gt N x (b.1.getD hC.toNat jd).1) false fun r => bif r then
 ob (F.Gt N y (b.1.getD hC.toNat jd).2) false fun aA => bif aA then some true else ob (F.Gt N x (b.1.getD hC.toNat jd).2) false fun bA => bif bA then
 ob (F.Gt N y (b.1.getD hC.toNat jd).1) false fun fA => bif fA then some true else next (i64.wrap (hC + 1)) else next (i64.wrap (hC + 1)) else
 ob (F.Gt N x (b.1.getD hC.toNat jd).2) false fun cA => bif cA then ob (F.Gt N y (b.1.getD hC.toNat jd).1) false fun nA => bif nA then some true else
 next (i64.wrap (hC + 1)) else next (i64.wrap (hC + 1)) else none else none else some false
def afc (N : Nat) (b : af) (x : List Txt) (y : List Txt) (kI : Int) : T51 := lp (fun _ => none) fun next => PR N b x y kI next
def an7 (N : Nat) (I0 : af → (List Txt) → (List Txt) → Int → Nat → Int → Option Bool) (b : af) (x : List Txt) (y : List Txt) : Option Bool :=
 I0 b x y (b.1.length : Int) N 0
def Yh (N : Nat) (b : af) (x : List Txt) (y : List Txt) : Option Bool := an7 N (afc N) b x y
def amX (N : Nat) (s : Txt) (p1 : List Txt) : Option (Bool × List Txt) := ob (F.Gt N p1 s) false fun r => some (r, p1)
def OA (N : Nat) (s : List Txt) (t7 : Int) (next : T23) : T23 := fun t8 jB => bif decide (t8 < t7) then bif decide (0 ≤ t8) then
 bif decide (t8 < s.length) then ob (F.amX N (s.getD t8.toNat []) jB) (false, []) fun aA => bif aA.1 then some (t8, aA.2) else
 next (i64.wrap (t8 + 1)) aA.2 else none else none else some (-1, jB)
def adL (N : Nat) (s : List Txt) (t7 : Int) : T17 := lp (fun _ _ => none) fun next => OA N s t7 next
def apT (N : Nat) (I0 : T9) (s : List Txt) (p1 : List Txt) : Option (Int × List Txt) := I0 s (s.length : Int) N 0 p1
def amB (N : Nat) (s : List Txt) (p1 : List Txt) : Option (Int × List Txt) := apT N (adL N) s p1
def f_9 (N : Nat) (s : List Txt) (p1 : List Txt) : Option (Bool × List Txt) := ob (F.amB N s p1) (Int.ofNat 0, []) fun r => some (decide (r.1 ≥ 0), r.2)
def abq (N : Nat) (a : List Txt) (b : List Txt) : Option Bool := ob (F.f_9 N a b) (false, []) fun r => some r.1
def A8 (N : Nat) (w : aK) (tD : Bool) (jF : Int) (next : T55) : T55 := fun mB => bif decide (mB < jF) then bif decide (0 ≤ mB) then
 bif decide (mB < w.2.2.2.1.length) then ob (F.Ir N (w.2.2.2.1.getD mB.toNat bY).1) false fun fA => bif !fA then some false else bif decide (mB > 0) then
 bif decide (0 ≤ i64.wrap (mB - 1)) then bif decide (i64.wrap (mB - 1) < (w.2.2.2.1.length : Int)) then
 bif !Op.bytesLess (w.2.2.2.1.getD (i64.wrap (mB - 1)).toNat bY).1 (w.2.2.2.1.getD mB.toNat bY).1 then some false else
 ob (F.mJ N (w.2.2.2.1.getD mB.toNat bY).2.1 1 3) false fun cA => bif !cA then some false else bif (w.2.2.2.1.getD mB.toNat bY).2.1 == 3 then
 bif (w.2.2.2.1.getD mB.toNat bY).2.2 != 0 then some false else next (i64.wrap (mB + 1)) else bif !tD then some false else
 ob (F.mJ N (w.2.2.2.1.getD mB.toNat bY).2.2 1 1000) false fun nA => bif !nA then some false else next (i64.wrap (mB + 1)) else none else none else
 ob (F.mJ N (w.2.2.2.1.getD mB.toNat bY).2.1 1 3) false fun jA => bif !jA then some false else bif (w.2.2.2.1.getD mB.toNat bY).2.1 == 3 then
 bif (w.2.2.2.1.getD mB.toNat bY).2.2 != 0 then some false else next (i64.wrap (mB + 1)) else bif !tD then some false else
 ob (F.mJ N (w.2.2.2.1.getD mB.toNat bY).2.2 1 1000) false fun oA => bif !oA then some false else next (i64.wrap (mB + 1)) else none else none else
 ob (F.yX N w.2.2.2.2.1 12) false fun kA => bif !kA then some false else ob (F.yX N w.2.2.2.2.2 12) false fun wB => bif !wB then some false else
 ob (F.abq N w.2.2.2.2.1 w.2.2.2.2.2) false fun tA => bif tA then some false else bif !tD then bif decide ((w.2.2.2.2.1.length : Int) > 0) then some false
 else some (decide (i64.wrap (i64.wrap ((w.2.2.2.1.length : Int) + (w.2.2.2.2.1.length : Int)) + (w.2.2.2.2.2.length : Int)) > 0)) else
 some (decide (i64.wrap (i64.wrap ((w.2.2.2.1.length : Int) + (w.2.2.2.2.1.length : Int)) + (w.2.2.2.2.2.length : Int)) > 0))
def ZA (N : Nat) (w : aK) (tD : Bool) (jF : Int) : T51 := lp (fun _ => none) fun next => A8 N w tD jF next
def aoi (N : Nat) (I0 : aK → Bool → Int → Nat → Int → Option Bool) (w : aK) : Option Bool := ob (F.mJ N w.1 1 1000000) false fun r => bif !r then
 some false else ob (F.mJ N w.2.1 1 3) false fun aA => bif !aA then some false else ob (F.yX N w.2.2.1 8) false fun bA => bif !bA then some false else
 bif !(w.2.1 == 1) == decide ((w.2.2.1.length : Int) > 0) then some false else bif decide ((w.2.2.2.1.length : Int) > 8) then some false else
 I0 w (w.2.1 == 1) (w.2.2.2.1.length : Int) N 0
def aka (N : Nat) (w : aK) : Option Bool := aoi N (ZA N) w
def auU (N : Nat) (s : bi) (p1 : Txt) : Option (Bool × Txt) := some (s.1 == p1, p1)
def Y0 (N : Nat) (s : List bi) (t7 : Int) (next : T43) : T43 := fun t8 jB => bif decide (t8 < t7) then bif decide (0 ≤ t8) then
 bif decide (t8 < s.length) then ob (F.auU N (s.getD t8.toNat aJ) jB) (false, []) fun aA => bif aA.1 then some (t8, aA.2) else
 next (i64.wrap (t8 + 1)) aA.2 else none else none else some (-1, jB)
def aqM (N : Nat) (s : List bi) (t7 : Int) : Nat → Int → Txt → Option (Int × Txt) := lp (fun _ _ => none) fun next => Y0 N s t7 next
def aw2 (N : Nat) (I0 : (List bi) → Int → Nat → Int → Txt → Option (Int × Txt)) (s : List bi) (p1 : Txt) : Option (Int × Txt) :=
 I0 s (s.length : Int) N 0 p1
def f_3 (N : Nat) (s : List bi) (p1 : Txt) : Option (Int × Txt) := aw2 N (aqM N) s p1
def IX (N : Nat) (b : af) (n : Txt) : Option Int := ob (F.f_3 N b.2.1 n) (Int.ofNat 0, []) fun r => some r.1
def apH (N : Nat) (s : Txt) (p1 : List Txt) : Option (Bool × List Txt) := ob (F.Gt N p1 s) false fun r => some (!r, p1)
def Qa (N : Nat) (s : List Txt) (t7 : Int) (next : T23) : T23 := fun t8 jB => bif decide (t8 < t7) then bif decide (0 ≤ t8) then
 bif decide (t8 < s.length) then ob (F.apH N (s.getD t8.toNat []) jB) (false, []) fun aA => bif aA.1 then some (t8, aA.2) else
 next (i64.wrap (t8 + 1)) aA.2 else none else none else some (-1, jB)
def acM (N : Nat) (s : List Txt) (t7 : Int) : T17 := lp (fun _ _ => none) fun next => Qa N s t7 next
def alg (N : Nat) (I0 : T9) (s : List Txt) (p1 : List Txt) : Option (Int × List Txt) := I0 s (s.length : Int) N 0 p1
def anZ (N : Nat) (s : List Txt) (p1 : List Txt) : Option (Int × List Txt) := alg N (acM N) s p1
def auz (N : Nat) (s : List Txt) (p1 : List Txt) : Option (Bool × List Txt) := ob (F.anZ N s p1) (Int.ofNat 0, []) fun r => some (decide (r.1 ≥ 0), r.2)
def JF (N : Nat) (a : List Txt) (b : List Txt) : Option Bool := ob (F.auz N a b) (false, []) fun r => some (!r.1)
def OW (N : Nat) (b : af) (w : aK) (t9 : Int) (next : T55) : T55 := fun rH => bif decide (rH < t9) then bif decide (0 ≤ rH) then
 bif decide (rH < w.2.2.2.1.length) then ob (F.IX N b (w.2.2.2.1.getD rH.toNat bY).1) (Int.ofNat 0) fun r => bif decide (r < 0) then some false else
 next (i64.wrap (rH + 1)) else none else none else ob (F.JF N w.2.2.2.2.1 b.2.2.1) false fun aA => bif aA then
 ob (F.JF N w.2.2.2.2.2 b.2.2.1) false fun bA => some bA else some false
def aeF (N : Nat) (b : af) (w : aK) (t9 : Int) : T51 := lp (fun _ => none) fun next => OW N b w t9 next
def aq7 (N : Nat) (I0 : af → aK → Int → Nat → Int → Option Bool) (b : af) (w : aK) : Option Bool := I0 b w (w.2.2.2.1.length : Int) N 0
def ajW (N : Nat) (b : af) (w : aK) : Option Bool := aq7 N (aeF N) b w
def P_ (N : Nat) (b : af) (p : dm) (lI : Int) (next : T55) : T55 := fun aD => bif decide (aD < lI) then bif decide (0 ≤ aD) then
 bif decide (aD < p.1.2.2.2.1.length) then ob (F.IX N b (p.1.2.2.2.1.getD aD.toNat bY).1) (Int.ofNat 0) fun bA => bif decide (0 ≤ bA) then
 bif decide (bA < b.2.1.length) then
 bif decide (i64.wrap ((b.2.1.getD bA.toNat aJ).2.2.1 + (p.1.2.2.2.1.getD aD.toNat bY).2.2) > (b.2.1.getD bA.toNat aJ).2.2.2.1) then some false else
 bif p.1.2.1 == 2 then bif (b.2.1.getD bA.toNat aJ).2.2.2.1 != 0 then some false else bif p.1.2.1 == 1 then
 bif (p.1.2.2.2.1.getD aD.toNat bY).2.1 != 2 then ob (F.JF N (b.2.1.getD bA.toNat aJ).2.2.2.2 p.1.2.2.1) false fun fA => bif !fA then some false else
 bif (p.1.2.2.2.1.getD aD.toNat bY).2.1 != 1 then ob (F.JF N p.1.2.2.1 (b.2.1.getD bA.toNat aJ).2.2.2.2) false fun cA => bif !cA then some false else
 next (i64.wrap (aD + 1)) else next (i64.wrap (aD + 1)) else bif (p.1.2.2.2.1.getD aD.toNat bY).2.1 != 1 then
 ob (F.JF N p.1.2.2.1 (b.2.1.getD bA.toNat aJ).2.2.2.2) false fun nA => bif !nA then some false else next (i64.wrap (aD + 1)) else
 next (i64.wrap (aD + 1)) else next (i64.wrap (aD + 1)) else bif p.1.2.1 == 1 then bif (p.1.2.2.2.1.getD aD.toNat bY).2.1 != 2 then
 ob (F.JF N (b.2.1.getD bA.toNat aJ).2.2.2.2 p.1.2.2.1) false fun jA => bif !jA then some false else bif (p.1.2.2.2.1.getD aD.toNat bY).2.1 != 1 then
 ob (F.JF N p.1.2.2.1 (b.2.1.getD bA.toNat aJ).2.2.2.2) false fun oA => bif !oA then some false else next (i64.wrap (aD + 1)) else
 next (i64.wrap (aD + 1)) else bif (p.1.2.2.2.1.getD aD.toNat bY).2.1 != 1 then ob (F.JF N p.1.2.2.1 (b.2.1.getD bA.toNat aJ).2.2.2.2) false fun kA =>
 bif !kA then some false else next (i64.wrap (aD + 1)) else next (i64.wrap (aD + 1)) else next (i64.wrap (aD + 1)) else none else none else none else none else
 some true
def ae6 (N : Nat) (b : af) (p : dm) (lI : Int) : T51 := lp (fun _ => none) fun next => P_ N b p lI next
def apz (N : Nat) (I0 : af → dm → Int → Nat → Int → Option Bool) (b : af) (p : dm) : Option Bool := bif decide (p.1.1 > b.2.2.2.2) then some false
 else ob (F.aka N p.1) false fun r => bif !r then some false else ob (F.ajW N b p.1) false fun aA => bif !aA then some false else
 I0 b p (p.1.2.2.2.1.length : Int) N 0
def akD (N : Nat) (b : af) (p : dm) : Option Bool := apz N (ae6 N) b p
def auV (N : Nat) (v : Use) (p1 : Use) : Option (Bool × Use) := some (p1.1 == v.1, p1)
def Q8 (N : Nat) (s : List Use) (t7 : Int) (next : T24) : T24 := fun t8 jB tC uC => bif decide (t8 < t7) then bif decide (0 ≤ t8) then
 bif decide (t8 < s.length) then ob (F.auV N (s.getD t8.toNat bY) (jB, tC, uC)) (false, [], Int.ofNat 0, Int.ofNat 0) fun aA => bif aA.1 then
 some (t8, aA.2) else next (i64.wrap (t8 + 1)) aA.2.1 aA.2.2.1 aA.2.2.2 else none else none else some (-1, jB, tC, uC)
def ane (N : Nat) (s : List Use) (t7 : Int) : Nat → Int → Txt → Int → Int → Option (Int × Use) := lp (fun _ _ _ _ => none) fun next => Q8 N s t7 next
def axr (N : Nat) (I0 : (List Use) → Int → Nat → Int → Txt → Int → Int → Option (Int × Use)) (s : List Use) (p1 : Use) : Option (Int × Use) :=
 I0 s (s.length : Int) N 0 p1.1 p1.2.1 p1.2.2
def f_8 (N : Nat) (s : List Use) (p1 : Use) : Option (Int × Use) := axr N (ane N) s p1
def f_4 (N : Nat) (s : List Use) (p1 : Use) : Option (Bool × Use) := ob (F.f_8 N s p1) (Int.ofNat 0, [], Int.ofNat 0, Int.ofNat 0) fun r =>
 some (decide (r.1 ≥ 0), r.2)
def ah5 (N : Nat) (u : Use) (p1 : aK) : Option (Bool × aK) := ob (F.f_4 N p1.2.2.2.1 u) (false, [], Int.ofNat 0, Int.ofNat 0) fun r => some (r.1, p1)
def F9 (N : Nat) (s : List Use) (t7 : Int) (next : T5) : T5 := fun t8 jB tC uC uD vD wD => bif decide (t8 < t7) then bif decide (0 ≤ t8) then
 bif decide (t8 < s.length) then ob (F.ah5 N (s.getD t8.toNat bY) (jB, tC, uC, uD, vD, wD)) (false, Int.ofNat 0, Int.ofNat 0, [], [], [], []) fun aA =>
 bif aA.1 then some (t8, aA.2) else next (i64.wrap (t8 + 1)) aA.2.1 aA.2.2.1 aA.2.2.2.1 aA.2.2.2.2.1 aA.2.2.2.2.2.1 aA.2.2.2.2.2.2 else none else none else
 some (-1, jB, tC, uC, uD, vD, wD)
def aem (N : Nat) (s : List Use) (t7 : Int) : T4 := lp (fun _ _ _ _ _ _ _ => none) fun next => F9 N s t7 next
def aly (N : Nat) (I0 : (List Use) → Int → Nat → Int → Int → Int → (List Txt) → (List Use) → (List Txt) → (List Txt) → Option (Int × aK)) (s : List Use) (p1 : aK) : Option (Int × aK) :=
 I0 s (s.length : Int) N 0 p1.1 p1.2.1 p1.2.2.1 p1.2.2.2.1 p1.2.2.2.2.1 p1.2.2.2.2.2
def ano (N : Nat) (s : List Use) (p1 : aK) : Option (Int × aK) := aly N (aem N) s p1
def f_7 (N : Nat) (s : List Use) (p1 : aK) : Option (Bool × aK) := ob (F.ano N s p1) (Int.ofNat 0, Int.ofNat 0, Int.ofNat 0, [], [], [], []) fun r =>
 some (decide (r.1 ≥ 0), r.2)
def SE (N : Nat) (a : aK) (b : aK) : Option Bool := ob (F.f_7 N a.2.2.2.1 b) (false, Int.ofNat 0, Int.ofNat 0, [], [], [], []) fun r => some r.1
def SI (N : Nat) (a : aK) (b : aK) : Option Bool := ob (F.abq N a.2.2.2.2.1 b.2.2.2.2.1) false fun r => bif r then some true else
 ob (F.abq N a.2.2.2.2.1 b.2.2.2.2.2) false fun aA => bif aA then some true else ob (F.abq N a.2.2.2.2.2 b.2.2.2.2.1) false fun bA => some bA
def OL (N : Nat) (yF : T55) (b : af) (kE : Int) (mA : Int) (kF : List dm) (jH : Int) (kG : Int) (lG : Int) (mG : List Txt) (nG : List Use) (oG : List Txt) (pG : List Txt) (sH : Bool) (next : T55) : T55 := fun xE =>
 bif decide (xE < jH) then bif decide (0 ≤ xE) then bif decide (xE < kF.length) then
 ob (F.SE N (kG, lG, mG, nG, oG, pG) (kF.getD xE.toNat bU).1) false fun lB => bif lB then some false else
 ob (F.SI N (kG, lG, mG, nG, oG, pG) (kF.getD xE.toNat bU).1) false fun rD => bif rD then some false else next (i64.wrap (xE + 1)) else none else none
 else yF (i64.wrap (mA + 1))
def TY (N : Nat) (yF : T55) (b : af) (kE : Int) (mA : Int) (kF : List dm) (jH : Int) (kG : Int) (lG : Int) (mG : List Txt) (nG : List Use) (oG : List Txt) (pG : List Txt) (sH : Bool) : T51 := lp (fun _ => none) fun next => OL N yF b kE mA kF jH kG lG mG nG oG pG sH next
def O4 (N : Nat) (I0 : Int → (List dm) → Int → Int → Int → (List Txt) → (List Use) → (List Txt) → (List Txt) → Bool → Nat → Int → Option Bool) (b : af) (kE : Int) (next : T55) : T55 := fun mA =>
 bif decide (mA < kE) then bif decide (0 ≤ mA) then bif decide (mA < b.2.2.2.1.length) then bif decide (mA > 0) then bif decide (0 ≤ i64.wrap (mA - 1)) then
 bif decide (i64.wrap (mA - 1) < (b.2.2.2.1.length : Int)) then
 bif decide ((b.2.2.2.1.getD (i64.wrap (mA - 1)).toNat bU).1.1 ≥ (b.2.2.2.1.getD mA.toNat bU).1.1) then some false else
 ob (F.akD N b (b.2.2.2.1.getD mA.toNat bU)) false fun hB => bif !hB then some false else bif decide (0 ≤ mA) then bif decide (mA ≤ b.2.2.2.1.length) then
 I0 mA (List.drop (Int.toNat 0) (List.take mA.toNat b.2.2.2.1)) ((List.drop (Int.toNat 0) (List.take mA.toNat b.2.2.2.1)).length : Int) ((b.2.2.2.1.getD mA.toNat bU).1.1) ((b.2.2.2.1.getD mA.toNat bU).1.2.1) ((b.2.2.2.1.getD mA.toNat bU).1.2.2.1) ((b.2.2.2.1.getD mA.toNat bU).1.2.2.2.1) ((b.2.2.2.1.getD mA.toNat bU).1.2.2.2.2.1) ((b.2.2.2.1.getD mA.toNat bU).1.2.2.2.2.2) ((b.2.2.2.1.getD mA.toNat bU).2) N 0 else none else none else none else none
 else ob (F.akD N b (b.2.2.2.1.getD mA.toNat bU)) false fun gC => bif !gC then some false else bif decide (0 ≤ mA) then
 bif decide (mA ≤ b.2.2.2.1.length) then
 I0 mA (List.drop (Int.toNat 0) (List.take mA.toNat b.2.2.2.1)) ((List.drop (Int.toNat 0) (List.take mA.toNat b.2.2.2.1)).length : Int) ((b.2.2.2.1.getD mA.toNat bU).1.1) ((b.2.2.2.1.getD mA.toNat bU).1.2.1) ((b.2.2.2.1.getD mA.toNat bU).1.2.2.1) ((b.2.2.2.1.getD mA.toNat bU).1.2.2.2.1) ((b.2.2.2.1.getD mA.toNat bU).1.2.2.2.2.1) ((b.2.2.2.1.getD mA.toNat bU).1.2.2.2.2.2) ((b.2.2.2.1.getD mA.toNat bU).2) N 0 else none else none else none else none
 else some true
def JG (N : Nat) (b : af) (kE : Int) : T51 := lp (fun _ => none) fun next => O4 N (TY N next b kE) b kE next
def O0 (N : Nat) (I1 : T35) (b : af) (mI : Int) (next : T55) : T55 := fun iC => bif decide (iC < mI) then bif decide (0 ≤ iC) then
 bif decide (iC < b.2.1.length) then ob (F.Ir N (b.2.1.getD iC.toNat aJ).1) false fun nA => bif !nA then some false else bif decide (iC > 0) then
 bif decide (0 ≤ i64.wrap (iC - 1)) then bif decide (i64.wrap (iC - 1) < (b.2.1.length : Int)) then
 bif !Op.bytesLess (b.2.1.getD (i64.wrap (iC - 1)).toNat aJ).1 (b.2.1.getD iC.toNat aJ).1 then some false else
 ob (F.mJ N (b.2.1.getD iC.toNat aJ).2.1 0 1000) false fun jA => bif !jA then some false else bif decide ((b.2.1.getD iC.toNat aJ).2.2.1 < 0) then
 some false else bif decide ((b.2.1.getD iC.toNat aJ).2.2.1 > (b.2.1.getD iC.toNat aJ).2.2.2.1) then some false else
 bif decide ((b.2.1.getD iC.toNat aJ).2.2.2.1 > (b.2.1.getD iC.toNat aJ).2.1) then some false else
 ob (F.yX N (b.2.1.getD iC.toNat aJ).2.2.2.2 8) false fun oA => bif !oA then some false else
 ob (F.Yh N b (b.2.1.getD iC.toNat aJ).2.2.2.2 (b.2.1.getD iC.toNat aJ).2.2.2.2) false fun kA => bif kA then some false else
 next (i64.wrap (iC + 1)) else none else none else ob (F.mJ N (b.2.1.getD iC.toNat aJ).2.1 0 1000) false fun wB => bif !wB then some false else
 bif decide ((b.2.1.getD iC.toNat aJ).2.2.1 < 0) then some false else
 bif decide ((b.2.1.getD iC.toNat aJ).2.2.1 > (b.2.1.getD iC.toNat aJ).2.2.2.1) then some false else
 bif decide ((b.2.1.getD iC.toNat aJ).2.2.2.1 > (b.2.1.getD iC.toNat aJ).2.1) then some false else
 ob (F.yX N (b.2.1.getD iC.toNat aJ).2.2.2.2 8) false fun tA => bif !tA then some false else
 ob (F.Yh N b (b.2.1.getD iC.toNat aJ).2.2.2.2 (b.2.1.getD iC.toNat aJ).2.2.2.2) false fun aB => bif aB then some false else
 next (i64.wrap (iC + 1)) else none else none else I1 b (b.2.2.2.1.length : Int) N 0
def JO (N : Nat) (b : af) (mI : Int) : T51 := lp (fun _ => none) fun next => O0 N (JG N) b mI next
def OI (N : Nat) (I2 : T35) (b : af) (jF : Int) (next : T55) : T55 := fun mB => bif decide (mB < jF) then bif decide (0 ≤ mB) then
 bif decide (mB < b.1.length) then ob (F.Ir N (b.1.getD mB.toNat jd).1) false fun bA => bif !bA then some false else
 ob (F.Ir N (b.1.getD mB.toNat jd).2) false fun fA => bif !fA then some false else
 bif !Op.bytesLess (b.1.getD mB.toNat jd).1 (b.1.getD mB.toNat jd).2 then some false else bif decide (mB > 0) then bif decide (0 ≤ i64.wrap (mB - 1)) then
 bif decide (i64.wrap (mB - 1) < (b.1.length : Int)) then ob (F.ap3 N (b.1.getD (i64.wrap (mB - 1)).toNat jd) (b.1.getD mB.toNat jd)) false fun cA =>
 bif !cA then some false else next (i64.wrap (mB + 1)) else none else none else next (i64.wrap (mB + 1)) else none else none else I2 b (b.2.1.length : Int) N 0
def YF (N : Nat) (b : af) (jF : Int) : T51 := lp (fun _ => none) fun next => OI N (JO N) b jF next
def aqY (N : Nat) (I3 : T35) (b : af) : Option Bool := bif decide ((b.1.length : Int) > 12) then some false else bif decide ((b.2.1.length : Int) > 8) then
 some false else bif decide ((b.2.2.2.1.length : Int) > 6) then some false else ob (F.yX N b.2.2.1 12) false fun r => bif !r then some false else
 ob (F.mJ N b.2.2.2.2 0 1000000) false fun aA => bif !aA then some false else I3 b (b.1.length : Int) N 0
def UH (N : Nat) (b : af) : Option Bool := aqY N (YF N) b
def aeS (N : Nat) (s : af) (b : af) : Option (Txt × af) := ob (F.UH N b) false fun r => bif !r then some ([110, 111], s) else some ([111, 107], b)
def PE (N : Nat) (s : Txt) (next : T56) : T56 := fun i3 => bif decide (i3 < s.length) then bif decide (0 ≤ i3) then bif decide (i3 < s.length) then
 bif decide (((s.getD i3.toNat 0).toNat : Int) < 48) then some (-1) else bif decide (0 ≤ i3) then bif decide (i3 < s.length) then
 bif decide (((s.getD i3.toNat 0).toNat : Int) > 57) then some (-1) else next (i64.wrap (i3 + 1)) else none else none else none else none else
 ob (F.strconv_Atoi N s) (Int.ofNat 0) fun aA => some aA
def YB (N : Nat) (s : Txt) : T52 := lp (fun _ => none) fun next => PE N s next
def ak_ (N : Nat) (I0 : Txt → Nat → Int → Option Int) (s : Txt) : Option Int := ob (F.mJ N (s.length : Int) 1 7) false fun r => bif !r then some (-1) else
 bif decide ((s.length : Int) > 1) then bif decide (0 < (s.length : Int)) then bif ((s.getD (Int.toNat 0) 0).toNat : Int) == 48 then some (-1) else
 I0 s N 0 else none else I0 s N 0
def BD (N : Nat) (s : Txt) : Option Int := ak_ N (YB N) s
def rJ (N : Nat) (s : Txt) : Option (List Txt) := bif s == [45] then some [] else ob (F.strings_Split N s [44]) [] fun r => some r
def acD (N : Nat) (qD : T32) (r : List Txt) (iE : Int) (lF : Int) (hA : List Use) (x5 : Txt) (nI : Int) (qG : Txt) (rG : Int) (sG : Int) (mF : List Txt) (next : Int → Option (List Use)) : Int → Option (List Use) := fun zF =>
 bif decide (zF < nI) then bif decide (0 ≤ zF) then bif decide (zF < mF.length) then bif decide (zF > 0) then
 ob (F.strings_Count N x5 (mF.getD zF.toNat [])) (Int.ofNat 0) fun aA => bif aA == 1 then
 ob (F.strings_Cut N x5 (mF.getD zF.toNat [])) ([], [], false) fun bA => ob (F.BD N bA.2.1) (Int.ofNat 0) fun fA =>
 bif decide ((hA.length + [(bA.1, zF, fA)].length) * 32 ≤ lim) then qD (i64.wrap (lF + 1)) (hA ++ [(bA.1, zF, fA)]) else none else next (i64.wrap (zF + 1))
 else next (i64.wrap (zF + 1)) else none else none else bif decide ((hA.length + [(qG, rG, sG)].length) * 32 ≤ lim) then
 qD (i64.wrap (lF + 1)) (hA ++ [(qG, rG, sG)]) else none
def kZ (N : Nat) (qD : T32) (r : List Txt) (iE : Int) (lF : Int) (hA : List Use) (x5 : Txt) (nI : Int) (qG : Txt) (rG : Int) (sG : Int) (mF : List Txt) : Nat → Int → Option (List Use) := lp (fun _ => none) fun next => acD N qD r iE lF hA x5 nI qG rG sG mF next
def FU (N : Nat) (I0 : Int → (List Use) → Txt → Int → Txt → Int → Int → (List Txt) → Nat → Int → Option (List Use)) (r : List Txt) (iE : Int) (next : T32) : T32 := fun lF hA =>
 bif decide (lF < iE) then bif decide (0 ≤ lF) then bif decide (lF < r.length) then
 I0 lF hA (r.getD lF.toNat []) (↑[[], [60], [62]].length : Int) (r.getD lF.toNat []) 3 0 ([[], [60], [62]]) N 0 else none else none else some hA
def Ya (N : Nat) (r : List Txt) (iE : Int) : T21 := lp (fun _ _ => none) fun next => FU N (kZ N next r iE) r iE next
def aeT (N : Nat) (I1 : (List Txt) → Int → Nat → Int → (List Use) → Option (List Use)) (s : Txt) : Option (List Use) := ob (F.rJ N s) [] fun r =>
 I1 r (r.length : Int) N 0 []
def RU (N : Nat) (s : Txt) : Option (List Use) := aeT N (Ya N) s
def arS (N : Nat) (p : dm) (p1 : Int) : Option (Bool × Int) := some (p.1.1 == p1, p1)
def X4 (N : Nat) (s : List dm) (t7 : Int) (next : T44) : T44 := fun t8 jB => bif decide (t8 < t7) then bif decide (0 ≤ t8) then
 bif decide (t8 < s.length) then ob (F.arS N (s.getD t8.toNat bU) jB) (false, Int.ofNat 0) fun aA => bif aA.1 then some (t8, aA.2) else
 next (i64.wrap (t8 + 1)) aA.2 else none else none else some (-1, jB)
def anQ (N : Nat) (s : List dm) (t7 : Int) : Nat → Int → Int → Option (Int × Int) := lp (fun _ _ => none) fun next => X4 N s t7 next
def axf (N : Nat) (I0 : (List dm) → Int → Nat → Int → Int → Option (Int × Int)) (s : List dm) (p1 : Int) : Option (Int × Int) :=
 I0 s (s.length : Int) N 0 p1
def f_0 (N : Nat) (s : List dm) (p1 : Int) : Option (Int × Int) := axf N (anQ N) s p1
def ZM (N : Nat) (b : af) (number : Int) : Option Int := ob (F.f_0 N b.2.2.2.1 number) (Int.ofNat 0, Int.ofNat 0) fun r => some r.1
def OG (N : Nat) (s1 : List Txt) (s2 : List Txt) (hC : Int) (next : T55) : T55 := fun sB => bif decide (sB < hC) then bif decide (0 ≤ sB) then
 bif decide (sB < s1.length) then bif decide (0 ≤ sB) then bif decide (sB < s2.length) then bif !s1.getD sB.toNat [] == s2.getD sB.toNat [] then some false
 else next (i64.wrap (sB + 1)) else none else none else none else none else some true
def adG (N : Nat) (s1 : List Txt) (s2 : List Txt) (hC : Int) : T51 := lp (fun _ => none) fun next => OG N s1 s2 hC next
def ao8 (N : Nat) (I0 : (List Txt) → (List Txt) → Int → Nat → Int → Option Bool) (s1 : List Txt) (s2 : List Txt) : Option Bool :=
 bif (s1.length : Int) != (s2.length : Int) then some false else I0 s1 s2 (s1.length : Int) N 0
def adD (N : Nat) (s1 : List Txt) (s2 : List Txt) : Option Bool := ao8 N (adG N) s1 s2
def Qk (N : Nat) (s1 : List Use) (s2 : List Use) (hC : Int) (next : T55) : T55 := fun sB => bif decide (sB < hC) then bif decide (0 ≤ sB) then
 bif decide (sB < s1.length) then bif decide (0 ≤ sB) then bif decide (sB < s2.length) then
 bif !((s1.getD sB.toNat bY).1 == (s2.getD sB.toNat bY).1 && ((s1.getD sB.toNat bY).2.1 == (s2.getD sB.toNat bY).2.1 && ((s1.getD sB.toNat bY).2.2 == (s2.getD sB.toNat bY).2.2 && true))) then
 some false else next (i64.wrap (sB + 1)) else none else none else none else none else some true
def adJ (N : Nat) (s1 : List Use) (s2 : List Use) (hC : Int) : T51 := lp (fun _ => none) fun next => Qk N s1 s2 hC next
def aq6 (N : Nat) (I0 : (List Use) → (List Use) → Int → Nat → Int → Option Bool) (s1 : List Use) (s2 : List Use) : Option Bool :=
 bif (s1.length : Int) != (s2.length : Int) then some false else I0 s1 s2 (s1.length : Int) N 0
def ale (N : Nat) (s1 : List Use) (s2 : List Use) : Option Bool := aq6 N (adJ N) s1 s2
def Vz (N : Nat) (a : aK) (b : aK) : Option Bool := bif a.1 == b.1 then bif a.2.1 == b.2.1 then ob (F.adD N a.2.2.1 b.2.2.1) false fun r => bif r then
 ob (F.ale N a.2.2.2.1 b.2.2.2.1) false fun aA => bif aA then ob (F.adD N a.2.2.2.2.1 b.2.2.2.2.1) false fun bA => bif bA then
 ob (F.adD N a.2.2.2.2.2 b.2.2.2.2.2) false fun fA => some fA else some false else some false else some false else some false else some false
def ai7 (N : Nat) (p : dm) (p1 : aK) : Option (Bool × aK) := ob (F.SE N p.1 p1) false fun r => some (r, p1)
def Zm (N : Nat) (s : List dm) (t7 : Int) (next : T5) : T5 := fun t8 jB tC uC uD vD wD => bif decide (t8 < t7) then bif decide (0 ≤ t8) then
 bif decide (t8 < s.length) then ob (F.ai7 N (s.getD t8.toNat bU) (jB, tC, uC, uD, vD, wD)) (false, Int.ofNat 0, Int.ofNat 0, [], [], [], []) fun aA =>
 bif aA.1 then some (t8, aA.2) else next (i64.wrap (t8 + 1)) aA.2.1 aA.2.2.1 aA.2.2.2.1 aA.2.2.2.2.1 aA.2.2.2.2.2.1 aA.2.2.2.2.2.2 else none else none else
 some (-1, jB, tC, uC, uD, vD, wD)
def aoL (N : Nat) (s : List dm) (t7 : Int) : T4 := lp (fun _ _ _ _ _ _ _ => none) fun next => Zm N s t7 next
def aw9 (N : Nat) (I0 : T0) (s : List dm) (p1 : aK) : Option (Int × aK) :=
 I0 s (s.length : Int) N 0 p1.1 p1.2.1 p1.2.2.1 p1.2.2.2.1 p1.2.2.2.2.1 p1.2.2.2.2.2
def f_5 (N : Nat) (s : List dm) (p1 : aK) : Option (Int × aK) := aw9 N (aoL N) s p1
def f_1 (N : Nat) (s : List dm) (p1 : aK) : Option (Bool × aK) := ob (F.f_5 N s p1) (Int.ofNat 0, Int.ofNat 0, Int.ofNat 0, [], [], [], []) fun r =>
 some (decide (r.1 ≥ 0), r.2)
def ai5 (N : Nat) (p : dm) (p1 : aK) : Option (Bool × aK) := ob (F.SI N p.1 p1) false fun r => some (r, p1)
def Zg (N : Nat) (s : List dm) (t7 : Int) (next : T5) : T5 := fun t8 jB tC uC uD vD wD => bif decide (t8 < t7) then bif decide (0 ≤ t8) then
 bif decide (t8 < s.length) then ob (F.ai5 N (s.getD t8.toNat bU) (jB, tC, uC, uD, vD, wD)) (false, Int.ofNat 0, Int.ofNat 0, [], [], [], []) fun aA =>
 bif aA.1 then some (t8, aA.2) else next (i64.wrap (t8 + 1)) aA.2.1 aA.2.2.1 aA.2.2.2.1 aA.2.2.2.2.1 aA.2.2.2.2.2.1 aA.2.2.2.2.2.2 else none else none else
 some (-1, jB, tC, uC, uD, vD, wD)
def apI (N : Nat) (s : List dm) (t7 : Int) : T4 := lp (fun _ _ _ _ _ _ _ => none) fun next => Zg N s t7 next
def awc (N : Nat) (I0 : T0) (s : List dm) (p1 : aK) : Option (Int × aK) :=
 I0 s (s.length : Int) N 0 p1.1 p1.2.1 p1.2.2.1 p1.2.2.2.1 p1.2.2.2.2.1 p1.2.2.2.2.2
def f_6 (N : Nat) (s : List dm) (p1 : aK) : Option (Int × aK) := awc N (apI N) s p1
def f_2 (N : Nat) (s : List dm) (p1 : aK) : Option (Bool × aK) := ob (F.f_6 N s p1) (Int.ofNat 0, Int.ofNat 0, Int.ofNat 0, [], [], [], []) fun r =>
 some (decide (r.1 ≥ 0), r.2)
def FT (N : Nat) (a : List Txt) (b : List Txt) : Option (List Txt) := ob (F.U3 N a) [] fun r => bif decide ((r.length + b.length) * 16 ≤ lim) then
 some (kz (srt (r ++ b))) else none
def OM (N : Nat) (b : af) (jA : Bool × aK) (kH : Int) (next : T56) : T56 := fun zB => bif decide (zB < kH) then bif decide (0 ≤ zB) then
 bif decide (zB < jA.2.2.2.2.1.length) then ob (F.IX N b (jA.2.2.2.2.1.getD zB.toNat bY).1) (Int.ofNat 0) fun kA => bif decide (0 ≤ kA) then
 bif decide (kA < b.2.1.length) then bif (jA.2.2.2.2.1.getD zB.toNat bY).2.1 == 1 then
 bif decide ((b.2.1.getD kA.toNat aJ).2.2.1 < (jA.2.2.2.2.1.getD zB.toNat bY).2.2) then some 9 else bif (jA.2.2.2.2.1.getD zB.toNat bY).2.1 == 2 then
 bif decide (i64.wrap ((b.2.1.getD kA.toNat aJ).2.2.2.1 + (jA.2.2.2.2.1.getD zB.toNat bY).2.2) > (b.2.1.getD kA.toNat aJ).2.1) then some 10 else
 bif jA.2.2.1 == 2 then bif decide ((b.2.1.getD kA.toNat aJ).2.2.2.1 > 0) then some 11 else next (i64.wrap (zB + 1)) else next (i64.wrap (zB + 1)) else
 bif jA.2.2.1 == 2 then bif decide ((b.2.1.getD kA.toNat aJ).2.2.2.1 > 0) then some 11 else next (i64.wrap (zB + 1)) else next (i64.wrap (zB + 1)) else
 bif (jA.2.2.2.2.1.getD zB.toNat bY).2.1 == 2 then
 bif decide (i64.wrap ((b.2.1.getD kA.toNat aJ).2.2.2.1 + (jA.2.2.2.2.1.getD zB.toNat bY).2.2) > (b.2.1.getD kA.toNat aJ).2.1) then some 10 else
 bif jA.2.2.1 == 2 then bif decide ((b.2.1.getD kA.toNat aJ).2.2.2.1 > 0) then some 11 else next (i64.wrap (zB + 1)) else next (i64.wrap (zB + 1)) else
 bif jA.2.2.1 == 2 then bif decide ((b.2.1.getD kA.toNat aJ).2.2.2.1 > 0) then some 11 else next (i64.wrap (zB + 1)) else
 next (i64.wrap (zB + 1)) else none else none else none else none else some 0
def JS (N : Nat) (b : af) (jA : Bool × aK) (kH : Int) : T52 := lp (fun _ => none) fun next => OM N b jA kH next
def IE (N : Nat) (I0 : T15) (b : af) (jA : Bool × aK) (oI : Int) (next : T56) : T56 := fun lH => bif decide (lH < oI) then bif decide (0 ≤ lH) then
 bif decide (lH < jA.2.2.2.2.1.length) then bif jA.2.2.1 != 1 then I0 b jA (jA.2.2.2.2.1.length : Int) N 0 else
 ob (F.IX N b (jA.2.2.2.2.1.getD lH.toNat bY).1) (Int.ofNat 0) fun wB => bif decide (0 ≤ wB) then bif decide (wB < b.2.1.length) then
 bif (jA.2.2.2.2.1.getD lH.toNat bY).2.1 != 2 then ob (F.JF N (b.2.1.getD wB.toNat aJ).2.2.2.2 jA.2.2.2.1) false fun tA => bif !tA then some 8 else
 next (i64.wrap (lH + 1)) else ob (F.Yh N b (b.2.1.getD wB.toNat aJ).2.2.2.2 jA.2.2.2.1) false fun aB => bif aB then some 8 else
 ob (F.FT N (b.2.1.getD wB.toNat aJ).2.2.2.2 jA.2.2.2.1) [] fun hB => bif decide ((hB.length : Int) > 8) then some 5 else
 next (i64.wrap (lH + 1)) else none else none else none else none else I0 b jA (jA.2.2.2.2.1.length : Int) N 0
def Uf (N : Nat) (b : af) (jA : Bool × aK) (oI : Int) : T52 := lp (fun _ => none) fun next => IE N (JS N) b jA oI next
def alT (N : Nat) (I1 : T15) (b : af) (w : aK) : Option Int := ob (F.UH N b) false fun r => bif !r then some 1 else ob (F.aka N w) false fun aA =>
 bif !aA then some 2 else ob (F.ajW N b w) false fun bA => bif !bA then some 2 else ob (F.ZM N b w.1) (Int.ofNat 0) fun fA => bif decide (fA ≥ 0) then
 bif decide (0 ≤ fA) then bif decide (fA < b.2.2.2.1.length) then ob (F.Vz N (b.2.2.2.1.getD fA.toNat bU).1 w) false fun cA => bif cA then some 0 else
 some 3 else none else none else bif decide (w.1 ≤ b.2.2.2.2) then some 4 else bif (b.2.2.2.1.length : Int) == 6 then some 5 else
 ob (F.f_1 N b.2.2.2.1 w) (false, Int.ofNat 0, Int.ofNat 0, [], [], [], []) fun nA => bif nA.1 then some 6 else
 ob (F.f_2 N b.2.2.2.1 nA.2) (false, Int.ofNat 0, Int.ofNat 0, [], [], [], []) fun jA => bif jA.1 then some 7 else
 ob (F.Yh N b jA.2.2.2.1 jA.2.2.2.1) false fun oA => bif oA then some 8 else I1 b jA (jA.2.2.2.2.1.length : Int) N 0
def alJ (N : Nat) (b : af) (w : aK) : Option Int := alT N (Uf N) b w
def Jf (N : Nat) (w : aK) (aA : af) (pI : Int) (lC : Int) (nC : List dm) (next : T25) : T25 := fun xD gA => bif decide (xD < pI) then
 bif decide (0 ≤ xD) then bif decide (xD < w.2.2.2.1.length) then
 ob (F.IX N (aA.1, gA, aA.2.2.1, nC, w.1) (w.2.2.2.1.getD xD.toNat bY).1) (Int.ofNat 0) fun kA => bif decide (0 ≤ kA) then bif decide (kA < gA.length) then
 bif (w.2.2.2.1.getD xD.toNat bY).2.1 == 1 then
 let vA : List bi := gA.set kA.toNat ((gA.getD kA.toNat aJ).1, (gA.getD kA.toNat aJ).2.1, i64.wrap ((gA.getD kA.toNat aJ).2.2.1 - (w.2.2.2.1.getD xD.toNat bY).2.2), (gA.getD kA.toNat aJ).2.2.2)
 bif (w.2.2.2.1.getD xD.toNat bY).2.1 != 1 then
 let kB : List bi := vA.set kA.toNat ((vA.getD kA.toNat aJ).1, (vA.getD kA.toNat aJ).2.1, (vA.getD kA.toNat aJ).2.2.1, (vA.getD kA.toNat aJ).2.2.2.1, [])
 ob (F.FT N (vA.getD kA.toNat aJ).2.2.2.2 w.2.2.1) [] fun wB => bif decide (kA = kA) && decide (([(5, 4)], 91).1 = [(5, 4)]) then
 let yD : List bi := kB.set kA.toNat ((kB.getD kA.toNat aJ).1, (kB.getD kA.toNat aJ).2.1, (kB.getD kA.toNat aJ).2.2.1, (kB.getD kA.toNat aJ).2.2.2.1, wB)
 next (i64.wrap (xD + 1)) yD else none else next (i64.wrap (xD + 1)) vA else bif (w.2.2.2.1.getD xD.toNat bY).2.1 == 2 then
 let pA : List bi := gA.set kA.toNat ((gA.getD kA.toNat aJ).1, (gA.getD kA.toNat aJ).2.1, (gA.getD kA.toNat aJ).2.2.1, i64.wrap ((gA.getD kA.toNat aJ).2.2.2.1 + (w.2.2.2.1.getD xD.toNat bY).2.2), (gA.getD kA.toNat aJ).2.2.2.2)
 bif (w.2.2.2.1.getD xD.toNat bY).2.1 != 1 then
 let fB : List bi := pA.set kA.toNat ((pA.getD kA.toNat aJ).1, (pA.getD kA.toNat aJ).2.1, (pA.getD kA.toNat aJ).2.2.1, (pA.getD kA.toNat aJ).2.2.2.1, [])
 ob (F.FT N (pA.getD kA.toNat aJ).2.2.2.2 w.2.2.1) [] fun tA => bif decide (kA = kA) && decide (([(5, 4)], 91).1 = [(5, 4)]) then
 let zD : List bi := fB.set kA.toNat ((fB.getD kA.toNat aJ).1, (fB.getD kA.toNat aJ).2.1, (fB.getD kA.toNat aJ).2.2.1, (fB.getD kA.toNat aJ).2.2.2.1, tA)
 next (i64.wrap (xD + 1)) zD else none else next (i64.wrap (xD + 1)) pA else bif (w.2.2.2.1.getD xD.toNat bY).2.1 != 1 then
 let gB : List bi := gA.set kA.toNat ((gA.getD kA.toNat aJ).1, (gA.getD kA.toNat aJ).2.1, (gA.getD kA.toNat aJ).2.2.1, (gA.getD kA.toNat aJ).2.2.2.1, [])
 ob (F.FT N (gA.getD kA.toNat aJ).2.2.2.2 w.2.2.1) [] fun aB => bif decide (kA = kA) && decide (([(5, 4)], 91).1 = [(5, 4)]) then
 let aE : List bi := gB.set kA.toNat ((gB.getD kA.toNat aJ).1, (gB.getD kA.toNat aJ).2.1, (gB.getD kA.toNat aJ).2.2.1, (gB.getD kA.toNat aJ).2.2.2.1, aB)
 next (i64.wrap (xD + 1)) aE else none else next (i64.wrap (xD + 1)) gA else none else none else none else none else some ((aA.1, gA, aA.2.2.1, nC, w.1), 0)
def Ug (N : Nat) (w : aK) (aA : af) (pI : Int) (lC : Int) (nC : List dm) : T18 := lp (fun _ _ => none) fun next => Jf N w aA pI lC nC next
def aqt (N : Nat) (I0 : aK → af → Int → Int → (List dm) → Nat → Int → (List bi) → Option (af × Int)) (b : af) (w : aK) : Option (af × Int) :=
 ob (F.alJ N b w) (Int.ofNat 0) fun r => bif r == 1 then some (([], [], [], [], 0), 1) else ob (F.abZ N b) dB fun aA => bif decide (r ≥ 5) then
 bif r != 0 then some ((aA.1, aA.2.1, aA.2.2.1, aA.2.2.2.1, w.1), r) else ob (F.ZM N b w.1) (Int.ofNat 0) fun bA => bif decide (bA ≥ 0) then
 some ((aA.1, aA.2.1, aA.2.2.1, aA.2.2.2.1, w.1), r) else ob (F.ac5 N w) rY fun fA =>
 bif decide ((aA.2.2.2.1.length + [(fA, false)].length) * 120 ≤ lim) then I0 w aA (w.2.2.2.1.length : Int) 0 (aA.2.2.2.1 ++ [(fA, false)]) N 0 aA.2.1 else none
 else bif r != 0 then some (aA, r) else ob (F.ZM N b w.1) (Int.ofNat 0) fun hB => bif decide (hB ≥ 0) then some (aA, r) else ob (F.ac5 N w) rY fun lB =>
 bif decide ((aA.2.2.2.1.length + [(lB, false)].length) * 120 ≤ lim) then I0 w aA (w.2.2.2.1.length : Int) 0 (aA.2.2.2.1 ++ [(lB, false)]) N 0 aA.2.1 else none
def ae8 (N : Nat) (b : af) (w : aK) : Option (af × Int) := aqt N (Ug N) b w
def LV (N : Nat) (s : af) (b : af) (code : Int) : Option (Txt × af) := bif code != 1 then ob (F.strconv_Itoa N code) [] fun r =>
 bif decide ([99, 111, 100, 101, 32].length + r.length ≤ lim) then some ([99, 111, 100, 101, 32] ++ r, b) else none else
 ob (F.strconv_Itoa N code) [] fun aA => bif decide ([99, 111, 100, 101, 32].length + aA.length ≤ lim) then some ([99, 111, 100, 101, 32] ++ aA, s) else none
def aq9 (N : Nat) (b : af) (number : Int) : Option (af × Int) := ob (F.UH N b) false fun r => bif !r then some (([], [], [], [], 0), 1) else
 ob (F.abZ N b) dB fun aA => ob (F.ZM N b number) (Int.ofNat 0) fun bA => bif decide (bA < 0) then some (aA, 3) else bif decide (0 ≤ bA) then
 bif decide (bA < aA.2.2.2.1.length) then
 let eD : List dm := List.set aA.2.2.2.1 bA.toNat ((aA.2.2.2.1.getD bA.toNat bU).1, true)
 some ((aA.1, aA.2.1, aA.2.2.1, eD, aA.2.2.2.2), 0) else none else none
def Ib (N : Nat) (moved : Int) (done : Bool) (aA : af) (fD : Int) (bC : Int) (uB : Int) (cC : List Txt) (sA : List Use) (dC : List Txt) (eC : List Txt) (qI : Int) (xG : List Foe) (yG : List bi) (zG : List Txt) (aH : List dm) (yB : List dm) (next : T25) : T25 := fun bE dA =>
 bif decide (bE < qI) then bif decide (0 ≤ bE) then bif decide (bE < sA.length) then
 ob (F.IX N (aA.1, dA, aA.2.2.1, yB, aA.2.2.2.2) (sA.getD bE.toNat bY).1) (Int.ofNat 0) fun cA => bif decide (0 ≤ cA) then bif decide (cA < dA.length) then
 bif (sA.getD bE.toNat bY).2.1 == 1 then
 let xA : List bi := dA.set cA.toNat ((dA.getD cA.toNat aJ).1, (dA.getD cA.toNat aJ).2.1, i64.wrap ((dA.getD cA.toNat aJ).2.2.1 + i64.wrap ((sA.getD bE.toNat bY).2.2 - moved)), (dA.getD cA.toNat aJ).2.2.2)
 let qA : List bi := xA.set cA.toNat ((xA.getD cA.toNat aJ).1, (xA.getD cA.toNat aJ).2.1, (xA.getD cA.toNat aJ).2.2.1, i64.wrap ((xA.getD cA.toNat aJ).2.2.2.1 - moved), (xA.getD cA.toNat aJ).2.2.2.2)
 bif uB == 2 then bif done then
 let cE : List bi := qA.set cA.toNat ((qA.getD cA.toNat aJ).1, (qA.getD cA.toNat aJ).2.1, (qA.getD cA.toNat aJ).2.2.1, (qA.getD cA.toNat aJ).2.2.2.1, [])
 next (i64.wrap (bE + 1)) cE else next (i64.wrap (bE + 1)) qA else next (i64.wrap (bE + 1)) qA else bif (sA.getD bE.toNat bY).2.1 == 2 then
 let rA : List bi := dA.set cA.toNat ((dA.getD cA.toNat aJ).1, (dA.getD cA.toNat aJ).2.1, i64.wrap ((dA.getD cA.toNat aJ).2.2.1 + moved), (dA.getD cA.toNat aJ).2.2.2)
 let lA : List bi := rA.set cA.toNat ((rA.getD cA.toNat aJ).1, (rA.getD cA.toNat aJ).2.1, (rA.getD cA.toNat aJ).2.2.1, i64.wrap ((rA.getD cA.toNat aJ).2.2.2.1 - i64.wrap ((sA.getD bE.toNat bY).2.2 - moved)), (rA.getD cA.toNat aJ).2.2.2.2)
 bif uB == 2 then bif done then
 let jD : List bi := lA.set cA.toNat ((lA.getD cA.toNat aJ).1, (lA.getD cA.toNat aJ).2.1, (lA.getD cA.toNat aJ).2.2.1, (lA.getD cA.toNat aJ).2.2.2.1, [])
 next (i64.wrap (bE + 1)) jD else next (i64.wrap (bE + 1)) lA else next (i64.wrap (bE + 1)) lA else bif uB == 2 then bif done then
 let kD : List bi := dA.set cA.toNat ((dA.getD cA.toNat aJ).1, (dA.getD cA.toNat aJ).2.1, (dA.getD cA.toNat aJ).2.2.1, (dA.getD cA.toNat aJ).2.2.2.1, [])
 next (i64.wrap (bE + 1)) kD else next (i64.wrap (bE + 1)) dA else next (i64.wrap (bE + 1)) dA else none else none else none else none else
 some ((aA.1, dA, aA.2.2.1, yB, aA.2.2.2.2), 0)
def Zy (N : Nat) (moved : Int) (done : Bool) (aA : af) (fD : Int) (bC : Int) (uB : Int) (cC : List Txt) (sA : List Use) (dC : List Txt) (eC : List Txt) (qI : Int) (xG : List Foe) (yG : List bi) (zG : List Txt) (aH : List dm) (yB : List dm) : T18 := lp (fun _ _ => none) fun next => Ib N moved done aA fD bC uB cC sA dC eC qI xG yG zG aH yB next
def QB (N : Nat) (I0 : Int → Bool → af → Int → Int → Int → (List Txt) → (List Use) → (List Txt) → (List Txt) → Int → (List Foe) → (List bi) → (List Txt) → (List dm) → (List dm) → Nat → Int → (List bi) → Option (af × Int)) (b : af) (moved : Int) (done : Bool) (aA : af) (bA : Int) (tH : List Use) (jF : Int) (fD : Int) (bC : Int) (uB : Int) (cC : List Txt) (sA : List Use) (dC : List Txt) (eC : List Txt) (next : Int → Option (af × Int)) : Int → Option (af × Int) := fun mB =>
 bif decide (mB < jF) then bif decide (0 ≤ mB) then bif decide (mB < tH.length) then bif (tH.getD mB.toNat bY).2.1 != 3 then
 bif decide (moved > (tH.getD mB.toNat bY).2.2) then some (aA, 2) else next (i64.wrap (mB + 1)) else next (i64.wrap (mB + 1)) else none else none else
 bif decide (0 ≤ bA) then bif decide (bA < b.2.2.2.1.length) then bif !(b.2.2.2.1.getD bA.toNat bU).2 then some (aA, 12) else bif decide (0 ≤ bA) then
 bif decide (bA < aA.2.2.2.1.length) then bif decide (i64.wrap (bA + 1) = bA + 1) then
 I0 moved done aA fD bC uB cC sA dC eC (sA.length : Int) [] [] [] [] (List.eraseIdx aA.2.2.2.1 bA.toNat) N 0 aA.2.1 else none else none else none else none else none
def afg (N : Nat) (b : af) (moved : Int) (done : Bool) (aA : af) (bA : Int) (tH : List Use) (jF : Int) (fD : Int) (bC : Int) (uB : Int) (cC : List Txt) (sA : List Use) (dC : List Txt) (eC : List Txt) : Nat → Int → Option (af × Int) := lp (fun _ => none) fun next => QB N (Zy N) b moved done aA bA tH jF fD bC uB cC sA dC eC next
def ame (N : Nat) (I1 : af → Int → Bool → af → Int → (List Use) → Int → Int → Int → Int → (List Txt) → (List Use) → (List Txt) → (List Txt) → Nat → Int → Option (af × Int)) (b : af) (number : Int) (moved : Int) (done : Bool) : Option (af × Int) :=
 ob (F.UH N b) false fun r => bif !r then some (([], [], [], [], 0), 1) else ob (F.abZ N b) dB fun aA => ob (F.ZM N b number) (Int.ofNat 0) fun bA =>
 bif decide (bA < 0) then some (aA, 3) else bif decide (0 ≤ bA) then bif decide (bA < b.2.2.2.1.length) then bif decide (moved < 0) then some (aA, 2) else
 I1 b moved done aA bA ((b.2.2.2.1.getD bA.toNat bU).1.2.2.2.1) (((b.2.2.2.1.getD bA.toNat bU).1.2.2.2.1.length) : Int) 0 ((b.2.2.2.1.getD bA.toNat bU).1.1) ((b.2.2.2.1.getD bA.toNat bU).1.2.1) ((b.2.2.2.1.getD bA.toNat bU).1.2.2.1) ((b.2.2.2.1.getD bA.toNat bU).1.2.2.2.1) ((b.2.2.2.1.getD bA.toNat bU).1.2.2.2.2.1) ((b.2.2.2.1.getD bA.toNat bU).1.2.2.2.2.2) N 0 else none else none
def ah3 (N : Nat) (b : af) (number : Int) (moved : Int) (done : Bool) : Option (af × Int) := ame N (afg N) b number moved done
def NE (N : Nat) (l : List Txt) : Option Txt := bif (l.length : Int) == 0 then some [45] else ob (F.strings_Join N l [44]) [] fun r => some r
def Qe (N : Nat) (b : af) (valve : Txt) (rI : Int) (next : T34) : T34 := fun iE iB => bif decide (iE < rI) then bif decide (0 ≤ iE) then
 bif decide (iE < b.2.2.2.1.length) then ob (F.Gt N (b.2.2.2.1.getD iE.toNat bU).1.2.2.2.2.2 valve) false fun aA => bif aA then
 bif decide ((iB.length + [(b.2.2.2.1.getD iE.toNat bU).1.1].length) * 8 ≤ lim) then
 next (i64.wrap (iE + 1)) (iB ++ [(b.2.2.2.1.getD iE.toNat bU).1.1]) else none else next (i64.wrap (iE + 1)) iB else none else none else some iB
def aec (N : Nat) (b : af) (valve : Txt) (rI : Int) : T22 := lp (fun _ _ => none) fun next => Qe N b valve rI next
def alE (N : Nat) (I0 : af → Txt → Int → Nat → Int → (List Int) → Option (List Int)) (b : af) (valve : Txt) : Option (List Int) :=
 ob (F.UH N b) false fun r => bif !r then some [] else I0 b valve (b.2.2.2.1.length : Int) N 0 []
def amg (N : Nat) (b : af) (valve : Txt) : Option (List Int) := alE N (aec N) b valve
def PK (N : Nat) (b : af) (valve : Txt) (hC : Int) (next : T56) : T56 := fun sB => bif decide (sB < hC) then bif decide (0 ≤ sB) then
 bif decide (sB < b.2.2.2.1.length) then bif !(b.2.2.2.1.getD sB.toNat bU).2 then
 ob (F.Gt N (b.2.2.2.1.getD sB.toNat bU).1.2.2.2.2.1 valve) false fun aA => bif aA then some ((b.2.2.2.1.getD sB.toNat bU).1.1) else
 next (i64.wrap (sB + 1)) else next (i64.wrap (sB + 1)) else none else none else some 0
def acJ (N : Nat) (b : af) (valve : Txt) (hC : Int) : T52 := lp (fun _ => none) fun next => PK N b valve hC next
def alL (N : Nat) (I0 : af → Txt → Int → Nat → Int → Option Int) (b : af) (valve : Txt) : Option Int := ob (F.UH N b) false fun r => bif !r then some 0
 else I0 b valve (b.2.2.2.1.length : Int) N 0
def aqW (N : Nat) (b : af) (valve : Txt) : Option Int := alL N (acJ N) b valve
def Oz (N : Nat) (s : af) (r : List Txt) (fC : List Int) (mH : Int) (next : T26) : T26 := fun nF nH => bif decide (nF < mH) then
 bif decide (0 ≤ nF) then bif decide (nF < fC.length) then ob (F.strconv_Itoa N (fC.getD nF.toNat (Int.ofNat 0))) [] fun uH =>
 bif decide ((nH.length + [uH].length) * 16 ≤ lim) then next (i64.wrap (nF + 1)) (nH ++ [uH]) else none else none else none else
 bif decide (1 < (r.length : Int)) then ob (F.aqW N s (r.getD (Int.toNat 1) [])) (Int.ofNat 0) fun sI => ob (F.strconv_Itoa N sI) [] fun oH =>
 bif decide (oH.length + [32].length ≤ lim) then ob (F.NE N nH) [] fun vH => bif decide ((oH ++ [32]).length + vH.length ≤ lim) then
 some (oH ++ [32] ++ vH, s) else none else none else none
def YO (N : Nat) (s : af) (r : List Txt) (fC : List Int) (mH : Int) : Nat → Int → (List Txt) → Option (Txt × af) := lp (fun _ _ => none) fun next => Oz N s r fC mH next
def arj (N : Nat) (I0 : af → (List Txt) → (List Int) → Int → Nat → Int → (List Txt) → Option (Txt × af)) (s : af) (line : Txt) : Option (Txt × af) :=
 ob (F.strings_Split N line [32]) [] fun r => ob (F.abZ N s) dB fun aA => bif decide (0 < (r.length : Int)) then
 bif r.getD (Int.toNat 0) [] == [102, 111, 101] && (r.length : Int) == 3 then bif decide (1 < (r.length : Int)) then bif decide (2 < (r.length : Int)) then
 bif decide ((aA.1.length + [(r.getD (Int.toNat 1) [], r.getD (Int.toNat 2) [])].length) * 32 ≤ lim) then
 ob (F.aeS N s (aA.1 ++ [(r.getD (Int.toNat 1) [], r.getD (Int.toNat 2) [])], aA.2)) ([], [], [], [], [], Int.ofNat 0) fun bA =>
 some bA else none else none else none else bif decide (0 < (r.length : Int)) then
 bif r.getD (Int.toNat 0) [] == [115, 112, 111, 116] && (r.length : Int) == 5 then
 ob (F.dY N (aA.2.1.length : Int) aA r) (Int.ofNat 0) fun fA => bif decide (3 < (r.length : Int)) then
 ob (F.BD N (r.getD (Int.toNat 3) [])) (Int.ofNat 0) fun cA => bif decide (1 < (r.length : Int)) then bif decide (2 < (r.length : Int)) then
 ob (F.BD N (r.getD (Int.toNat 2) [])) (Int.ofNat 0) fun nA => bif decide (4 < (r.length : Int)) then ob (F.rJ N (r.getD (Int.toNat 4) [])) [] fun jA =>
 ob (F.dS N aA.2.1 fA [(r.getD (Int.toNat 1) [], nA, cA, cA, jA)]) [] fun oA =>
 ob (F.aeS N s (aA.1, oA, aA.2.2)) ([], [], [], [], [], Int.ofNat 0) fun kA => some kA else none else none else none else none else
 bif decide (0 < (r.length : Int)) then bif r.getD (Int.toNat 0) [] == [118, 97, 108, 118, 101, 115] && (r.length : Int) == 2 then
 bif decide (1 < (r.length : Int)) then ob (F.rJ N (r.getD (Int.toNat 1) [])) [] fun wB =>
 ob (F.aeS N s (aA.1, aA.2.1, wB, aA.2.2.2)) ([], [], [], [], [], Int.ofNat 0) fun tA => some tA else none else bif decide (0 < (r.length : Int)) then
 bif r.getD (Int.toNat 0) [] == [109, 111, 118, 101] && (r.length : Int) == 6 then bif decide (2 < (r.length : Int)) then
 ob (F.BD N (r.getD (Int.toNat 2) [])) (Int.ofNat 0) fun aB => bif decide (1 < (r.length : Int)) then ob (F.rJ N (r.getD (Int.toNat 1) [])) [] fun hB =>
 bif decide (3 < (r.length : Int)) then ob (F.RU N (r.getD (Int.toNat 3) [])) [] fun lB => bif decide (4 < (r.length : Int)) then
 ob (F.rJ N (r.getD (Int.toNat 4) [])) [] fun rD => bif decide (5 < (r.length : Int)) then ob (F.rJ N (r.getD (Int.toNat 5) [])) [] fun gC =>
 ob (F.ae8 N s (aB, 1, hB, lB, rD, gC)) (dB, Int.ofNat 0) fun uE => ob (F.LV N s uE.1 uE.2) ([], [], [], [], [], Int.ofNat 0) fun cH =>
 some cH else none else none else none else none else none else bif decide (0 < (r.length : Int)) then bif decide (0 < (r.length : Int)) then
 bif (r.getD (Int.toNat 0) [] == [99, 108, 101, 97, 110] || r.getD (Int.toNat 0) [] == [112, 101, 114, 109, 105, 116]) && (r.length : Int) == 5 then
 bif decide (0 < (r.length : Int)) then bif r.getD (Int.toNat 0) [] == [112, 101, 114, 109, 105, 116] then bif decide (1 < (r.length : Int)) then
 ob (F.BD N (r.getD (Int.toNat 1) [])) (Int.ofNat 0) fun gD => bif decide (2 < (r.length : Int)) then ob (F.RU N (r.getD (Int.toNat 2) [])) [] fun sD =>
 bif decide (3 < (r.length : Int)) then ob (F.rJ N (r.getD (Int.toNat 3) [])) [] fun dH => bif decide (4 < (r.length : Int)) then
 ob (F.rJ N (r.getD (Int.toNat 4) [])) [] fun eH => ob (F.ae8 N s (gD, 3, [], sD, dH, eH)) (dB, Int.ofNat 0) fun gF =>
 ob (F.LV N s gF.1 gF.2) ([], [], [], [], [], Int.ofNat 0) fun fH => some fH else none else none else none else none else
 bif decide (1 < (r.length : Int)) then ob (F.BD N (r.getD (Int.toNat 1) [])) (Int.ofNat 0) fun vE => bif decide (2 < (r.length : Int)) then
 ob (F.RU N (r.getD (Int.toNat 2) [])) [] fun gH => bif decide (3 < (r.length : Int)) then ob (F.rJ N (r.getD (Int.toNat 3) [])) [] fun hF =>
 bif decide (4 < (r.length : Int)) then ob (F.rJ N (r.getD (Int.toNat 4) [])) [] fun hH =>
 ob (F.ae8 N s (vE, 2, [], gH, hF, hH)) (dB, Int.ofNat 0) fun iF => ob (F.LV N s iF.1 iF.2) ([], [], [], [], [], Int.ofNat 0) fun lE =>
 some lE else none else none else none else none else none else bif decide (0 < (r.length : Int)) then
 bif r.getD (Int.toNat 0) [] == [115, 116, 111, 112] && (r.length : Int) == 2 then bif decide (1 < (r.length : Int)) then
 ob (F.BD N (r.getD (Int.toNat 1) [])) (Int.ofNat 0) fun oF => ob (F.aq9 N s oF) (dB, Int.ofNat 0) fun wH =>
 ob (F.LV N s wH.1 wH.2) ([], [], [], [], [], Int.ofNat 0) fun tI => some tI else none else bif decide (0 < (r.length : Int)) then
 bif r.getD (Int.toNat 0) [] == [111, 118, 101, 114] && (r.length : Int) == 3 then bif decide (1 < (r.length : Int)) then
 ob (F.BD N (r.getD (Int.toNat 1) [])) (Int.ofNat 0) fun uI => bif decide (2 < (r.length : Int)) then
 ob (F.BD N (r.getD (Int.toNat 2) [])) (Int.ofNat 0) fun vI => ob (F.ah3 N s uI vI false) (dB, Int.ofNat 0) fun pF =>
 ob (F.LV N s pF.1 pF.2) ([], [], [], [], [], Int.ofNat 0) fun wI => some wI else none else none else bif decide (0 < (r.length : Int)) then
 bif r.getD (Int.toNat 0) [] == [99, 108, 101, 97, 110, 101, 100] && (r.length : Int) == 2 then bif decide (1 < (r.length : Int)) then
 ob (F.BD N (r.getD (Int.toNat 1) [])) (Int.ofNat 0) fun xI => ob (F.ah3 N s xI 0 true) (dB, Int.ofNat 0) fun xH =>
 ob (F.LV N s xH.1 xH.2) ([], [], [], [], [], Int.ofNat 0) fun yI => some yI else none else bif decide (0 < (r.length : Int)) then
 bif r.getD (Int.toNat 0) [] == [115, 104, 111, 119] && (r.length : Int) == 2 then bif decide (1 < (r.length : Int)) then
 ob (F.IX N aA (r.getD (Int.toNat 1) [])) (Int.ofNat 0) fun mC => bif decide (mC < 0) then some ([110, 111, 110, 101], s) else bif decide (0 ≤ mC) then
 bif decide (mC < aA.2.1.length) then ob (F.strconv_Itoa N (aA.2.1.getD mC.toNat aJ).2.2.1) [] fun lD => bif decide (lD.length + [45].length ≤ lim) then
 ob (F.strconv_Itoa N (aA.2.1.getD mC.toNat aJ).2.2.2.1) [] fun dE => bif decide ((lD ++ [45]).length + dE.length ≤ lim) then
 bif decide ((lD ++ [45] ++ dE).length + [32, 111, 102, 32].length ≤ lim) then ob (F.strconv_Itoa N (aA.2.1.getD mC.toNat aJ).2.1) [] fun yE =>
 bif decide ((lD ++ [45] ++ dE ++ [32, 111, 102, 32]).length + yE.length ≤ lim) then
 bif decide ((lD ++ [45] ++ dE ++ [32, 111, 102, 32] ++ yE).length + [32].length ≤ lim) then ob (F.NE N (aA.2.1.getD mC.toNat aJ).2.2.2.2) [] fun tG =>
 bif decide ((lD ++ [45] ++ dE ++ [32, 111, 102, 32] ++ yE ++ [32]).length + tG.length ≤ lim) then
 some (lD ++ [45] ++ dE ++ [32, 111, 102, 32] ++ yE ++ [32] ++ tG, s) else none else none else none else none else none else none else none else none else none
 else bif decide (0 < (r.length : Int)) then bif r.getD (Int.toNat 0) [] == [118, 97, 108, 118, 101] && (r.length : Int) == 2 then
 bif decide (1 < (r.length : Int)) then ob (F.amg N s (r.getD (Int.toNat 1) [])) [] fun fC => I0 s r fC (fC.length : Int) N 0 [] else none else
 some ([98, 97, 100], s) else none else none else none else none else none else none else none else none else none else none else none
def aj_ (N : Nat) (s : af) (line : Txt) : Option (Txt × af) := arj N (YO N) s line
def Bo (N : Nat) (hI : List Txt) (zI : Int) (next : T7) : T7 := fun zA yH zH aI bI cI dI => bif decide (yH < zI) then bif decide (0 ≤ yH) then
 bif decide (yH < hI.length) then ob (F.aj_ N (zH, aI, bI, cI, dI) (hI.getD yH.toNat [])) ([], [], [], [], [], Int.ofNat 0) fun aA =>
 bif decide (aA.1.length + [10].length ≤ lim) then bif decide (zA.length + (aA.1 ++ [10]).length ≤ lim) then
 next (zA ++ (aA.1 ++ [10])) (i64.wrap (yH + 1)) aA.2.1 aA.2.2.1 aA.2.2.2.1 aA.2.2.2.2.1 aA.2.2.2.2.2 else none else none else none else none else some zA
def CP (N : Nat) (hI : List Txt) (zI : Int) : T6 := lp (fun _ _ _ _ _ _ _ => none) fun next => Bo N hI zI next
def ark (N : Nat) (I0 : (List Txt) → Int → Nat → Txt → Int → (List Foe) → (List bi) → (List Txt) → (List dm) → Int → Option Txt) (text : Txt) : Option Txt :=
 ob (F.strings_Split N text [10]) [] fun r => bif decide (0 ≤ i64.wrap ((r.length : Int) - 1)) then
 bif decide (i64.wrap ((r.length : Int) - 1) < (r.length : Int)) then bif r.getD (i64.wrap ((r.length : Int) - 1)).toNat [] == [] then
 bif decide (0 ≤ i64.wrap ((r.length : Int) - 1)) then bif decide (i64.wrap ((r.length : Int) - 1) ≤ (r.length : Int)) then
 bif decide ((text.length : Int) > 10000) then some [116, 111, 111, 32, 108, 111, 110, 103, 10] else
 bif decide (((List.drop (Int.toNat 0) (List.take (i64.wrap ((r.length : Int) - 1)).toNat r)).length : Int) > 200) then
 some [116, 111, 111, 32, 108, 111, 110, 103, 10] else
 I0 (List.drop (Int.toNat 0) (List.take (i64.wrap ((r.length : Int) - 1)).toNat r)) ((List.drop (Int.toNat 0) (List.take (i64.wrap ((r.length : Int) - 1)).toNat r)).length : Int) N [] 0 [] [] [] [] 0 else none else none
 else bif decide ((text.length : Int) > 10000) then some [116, 111, 111, 32, 108, 111, 110, 103, 10] else bif decide ((r.length : Int) > 200) then
 some [116, 111, 111, 32, 108, 111, 110, 103, 10] else I0 r (r.length : Int) N [] 0 [] [] [] [] 0 else none else none
def aby (N : Nat) (text : Txt) : Option Txt := ark N (CP N) text
def gK (N : Nat) (r : Rdr) (n : Int) : Option (Int × Rdr) := bif decide (n < 1) then some (0, r.1, i64.wrap (r.2 + 1)) else bif (r.1.length : Int) == 0 then
 some (0, r.1, i64.wrap (r.2 + 1)) else bif decide (i64.wrap (i64.wrap (r.2 + 1) - 1) < (r.1.length : Int)) then
 bif decide (0 ≤ i64.wrap (i64.wrap (r.2 + 1) - 1)) then bif decide (i64.wrap (i64.wrap (r.2 + 1) - 1) < (r.1.length : Int)) then bif !decide (n = 0) then
 some ((i64.wrap (r.1.getD (i64.wrap (i64.wrap (r.2 + 1) - 1)).toNat (Int.ofNat 0))).tmod n, r.1, i64.wrap (r.2 + 1)) else none else none else none else
 bif !decide ((r.1.length : Int) = 0) then bif decide (0 ≤ (i64.wrap (i64.wrap (r.2 + 1) - 1)).tmod (r.1.length : Int)) then
 bif decide ((i64.wrap (i64.wrap (r.2 + 1) - 1)).tmod (r.1.length : Int) < (r.1.length : Int)) then bif !decide ((r.1.length : Int) = 0) then
 bif decide (0 ≤ (i64.wrap (i64.wrap (i64.wrap (i64.wrap (r.2 + 1) - 1) * 7) + 3)).tmod (r.1.length : Int)) then
 bif decide ((i64.wrap (i64.wrap (i64.wrap (i64.wrap (r.2 + 1) - 1) * 7) + 3)).tmod (r.1.length : Int) < (r.1.length : Int)) then
 bif !decide ((r.1.length : Int) = 0) then bif !decide (n = 0) then
 some ((i64.wrap ((BitVec.ofInt IntKind.i64.bits (i64.wrap (i64.wrap (i64.wrap (i64.wrap (i64.wrap (r.1.getD ((i64.wrap (i64.wrap (r.2 + 1) - 1)).tmod (r.1.length : Int)).toNat (Int.ofNat 0)) * 131) + i64.wrap (i64.wrap (r.1.getD ((i64.wrap (i64.wrap (i64.wrap (i64.wrap (r.2 + 1) - 1) * 7) + 3)).tmod (r.1.length : Int)).toNat (Int.ofNat 0)) * 1117)) + i64.wrap (i64.wrap (i64.wrap (r.2 + 1) - 1) * 29)) + i64.wrap (i64.wrap ((i64.wrap (i64.wrap (r.2 + 1) - 1)).tdiv (r.1.length : Int)) * 53))) ^^^ BitVec.ofInt IntKind.i64.bits (i64.wrap ((i64.wrap (i64.wrap (i64.wrap (i64.wrap (i64.wrap (r.1.getD ((i64.wrap (i64.wrap (r.2 + 1) - 1)).tmod (r.1.length : Int)).toNat (Int.ofNat 0)) * 131) + i64.wrap (i64.wrap (r.1.getD ((i64.wrap (i64.wrap (i64.wrap (i64.wrap (r.2 + 1) - 1) * 7) + 3)).tmod (r.1.length : Int)).toNat (Int.ofNat 0)) * 1117)) + i64.wrap (i64.wrap (i64.wrap (r.2 + 1) - 1) * 29)) + i64.wrap (i64.wrap ((i64.wrap (i64.wrap (r.2 + 1) - 1)).tdiv (r.1.length : Int)) * 53))).tdiv 64))).toNat : Int)).tmod n, r.1, i64.wrap (r.2 + 1)) else none else none else none else none else none else none else none else none
def BG (N : Nat) (r : Rdr) (list : List Txt) : Option (Txt × Rdr) := ob (F.gK N r (list.length : Int)) dR fun aA => bif decide (0 ≤ aA.1) then
 bif decide (aA.1 < list.length) then some (list.getD aA.1.toNat [], aA.2) else none else none
def zK (N : Nat) (tB : Int) (mE : List Foe) (nE : Int) (nB : List bi) (aC : List Txt) (next : T13) : T13 := fun i8 qF rF oE =>
 bif decide (i8 < aC.length) then ob (F.gK N (qF, rF) 8) dR fun oA => bif decide (oA.1 > 0) then bif decide (0 ≤ i8) then bif decide (i8 < aC.length) then
 bif decide ((oE.length + 1) * 16 ≤ lim) then next (i64.wrap (i8 + 1)) oA.2.1 oA.2.2 (oE ++ [aC.getD i8.toNat []]) else none else none else none else
 next (i64.wrap (i8 + 1)) oA.2.1 oA.2.2 oE else some ((mE, nB, oE, [], nE), qF, rF)
def Bh (N : Nat) (tB : Int) (mE : List Foe) (nE : Int) (nB : List bi) (aC : List Txt) : Nat → Int → (List Int) → Int → (List Txt) → Option (af × Rdr) := lp (fun _ _ _ _ => none) fun next => zK N tB mE nE nB aC next
def zy (N : Nat) (I0 : Int → (List Foe) → Int → (List bi) → (List Txt) → Nat → Int → (List Int) → Int → (List Txt) → Option (af × Rdr)) (tB : Int) (mE : List Foe) (nE : Int) (oB : List Txt) (next : T12) : T12 := fun i5 mD nD nB =>
 bif decide (i5 < oB.length) then ob (F.gK N (mD, nD) 8) dR fun bA => bif bA.1 == 0 then next (i64.wrap (i5 + 1)) bA.2.1 bA.2.2 nB else
 bif decide (0 ≤ i5) then bif decide (i5 < oB.length) then bif decide (i5 > 1) then ob (F.gK N bA.2 40) dR fun fA =>
 ob (F.gK N fA.2 (i64.wrap (i64.wrap (10 + fA.1) + 1))) dR fun cA => ob (F.gK N cA.2 3) dR fun nA => bif nA.1 == 0 then
 bif decide ((nB.length + 1) * 64 ≤ lim) then next (i64.wrap (i5 + 1)) nA.2.1 nA.2.2 (nB ++ [(oB.getD i5.toNat [], i64.wrap (10 + fA.1), 0, 0, [])]) else none
 else bif decide (cA.1 > 0) then ob (F.BG N nA.2 [[97, 108, 101], [109, 97, 108, 116], [119, 97, 116, 101, 114]]) ([], [], Int.ofNat 0) fun jA =>
 bif decide ((nB.length + 1) * 64 ≤ lim) then
 next (i64.wrap (i5 + 1)) jA.2.1 jA.2.2 (nB ++ [(oB.getD i5.toNat [], i64.wrap (10 + fA.1), cA.1, cA.1, [jA.1])]) else none else
 bif decide ((nB.length + 1) * 64 ≤ lim) then
 next (i64.wrap (i5 + 1)) nA.2.1 nA.2.2 (nB ++ [(oB.getD i5.toNat [], i64.wrap (10 + fA.1), cA.1, cA.1, [])]) else none else
 bif decide ((nB.length + 1) * 64 ≤ lim) then next (i64.wrap (i5 + 1)) bA.2.1 bA.2.2 (nB ++ [(oB.getD i5.toNat [], 0, 0, 0, [])]) else none else none else none
 else I0 tB mE nE nB ([[97], [98], [99], [100], [101], [102]]) N 0 mD nD []
def Qd (N : Nat) (tB : Int) (mE : List Foe) (nE : Int) (oB : List Txt) : Nat → Int → (List Int) → Int → (List bi) → Option (af × Rdr) := lp (fun _ _ _ _ => none) fun next => zy N (Bh N) tB mE nE oB next
def ae5 (N : Nat) (I1 : Int → (List Foe) → Int → (List Txt) → Nat → Int → (List Int) → Int → (List bi) → Option (af × Rdr)) (r : Rdr) : Option (af × Rdr) :=
 ob (F.gK N r 3) dR fun aA => bif aA.1 == 0 then
 I1 0 (List.drop (Int.toNat 1) (List.take (↑[([97, 108, 101], [108, 121, 101]), ([108, 121, 101], [109, 97, 108, 116])].length : Int).toNat [([97, 108, 101], [108, 121, 101]), ([108, 121, 101], [109, 97, 108, 116])])) 0 ([[106, 49], [106, 50], [107, 101, 103], [116, 117, 110], [118, 97, 116]]) N 0 aA.2.1 aA.2.2 []
 else
 I1 0 ([([97, 108, 101], [108, 121, 101]), ([108, 121, 101], [109, 97, 108, 116])]) 0 ([[106, 49], [106, 50], [107, 101, 103], [116, 117, 110], [118, 97, 116]]) N 0 aA.2.1 aA.2.2 []
def WI (N : Nat) (r : Rdr) : Option (af × Rdr) := ae5 N (Qd N) r
def Ze (g_f_57 : Rdr → (Int) → Option ((Int) × Rdr)) (r : Rdr) (b : af) : Option (Int × Rdr) := bif decide ((b.2.2.2.1.length : Int) > 0) then
 ob (g_f_57 r 6) dR fun aA => bif decide (aA.1 > 0) then ob (g_f_57 aA.2 (b.2.2.2.1.length : Int)) dR fun bA => bif decide (0 ≤ bA.1) then
 bif decide (bA.1 < b.2.2.2.1.length) then some ((b.2.2.2.1.getD bA.1.toNat bU).1.1, bA.2) else none else none else ob (g_f_57 aA.2 4) dR fun fA =>
 bif decide (0 ≤ fA.1) then bif decide (fA.1 < (↑[0, -1, b.2.2.2.2, i64.wrap (b.2.2.2.2 + 1)].length : Int)) then
 some ([0, -1, b.2.2.2.2, i64.wrap (b.2.2.2.2 + 1)].getD fA.1.toNat (Int.ofNat 0), fA.2) else none else none else ob (g_f_57 r 4) dR fun cA =>
 bif decide (0 ≤ cA.1) then bif decide (cA.1 < (↑[0, -1, b.2.2.2.2, i64.wrap (b.2.2.2.2 + 1)].length : Int)) then
 some ([0, -1, b.2.2.2.2, i64.wrap (b.2.2.2.2 + 1)].getD cA.1.toNat (Int.ofNat 0), cA.2) else none else none
def zZ (N : Nat) (r : Rdr) (b : af) : Option (Int × Rdr) := Ze (F.gK N) r b
def Hy (N : Nat) (r : Rdr) (b : af) (aA : Int) (next : T45) : T45 := fun eE i9 => bif decide (aA ≥ 0) then bif decide (0 ≤ aA) then
 bif decide (aA < b.2.2.2.1.length) then bif decide (i9 < (((b.2.2.2.1.getD aA.toNat bU).1.2.2.2.1.length) : Int)) then bif decide (0 ≤ aA) then
 bif decide (aA < b.2.2.2.1.length) then bif decide (0 ≤ i9) then bif decide (i9 < (((b.2.2.2.1.getD aA.toNat bU).1.2.2.2.1.length) : Int)) then
 bif (List.getD (b.2.2.2.1.getD aA.toNat bU).1.2.2.2.1 i9.toNat bY).2.1 != 3 then
 bif decide (eE > (List.getD (b.2.2.2.1.getD aA.toNat bU).1.2.2.2.1 i9.toNat bY).2.2) then
 next ((List.getD (b.2.2.2.1.getD aA.toNat bU).1.2.2.2.1 i9.toNat bY).2.2) (i64.wrap (i9 + 1)) else bif i9 == 0 then
 next ((List.getD (b.2.2.2.1.getD aA.toNat bU).1.2.2.2.1 i9.toNat bY).2.2) (i64.wrap (i9 + 1)) else next eE (i64.wrap (i9 + 1)) else
 next eE (i64.wrap (i9 + 1)) else none else none else none else none else ob (F.gK N r (i64.wrap (eE + 2))) dR fun bA => ob (F.gK N bA.2 2) dR fun fA =>
 ob (F.gK N fA.2 2) dR fun cA => ob (F.gK N cA.2 2) dR fun nA =>
 some (i64.wrap (bA.1 - i64.wrap (i64.wrap (fA.1 * cA.1) * nA.1)), nA.2) else none else none else ob (F.gK N r (i64.wrap (eE + 2))) dR fun jA =>
 ob (F.gK N jA.2 2) dR fun oA => ob (F.gK N oA.2 2) dR fun kA => ob (F.gK N kA.2 2) dR fun wB =>
 some (i64.wrap (jA.1 - i64.wrap (i64.wrap (oA.1 * kA.1) * wB.1)), wB.2)
def ad9 (N : Nat) (r : Rdr) (b : af) (aA : Int) : Nat → Int → Int → Option (Int × Rdr) := lp (fun _ _ => none) fun next => Hy N r b aA next
def alF (N : Nat) (I0 : Rdr → af → Int → Nat → Int → Int → Option (Int × Rdr)) (r : Rdr) (b : af) (number : Int) : Option (Int × Rdr) :=
 ob (F.FY N b number) (Int.ofNat 0) fun aA => I0 r b aA N 3 0
def aiD (N : Nat) (r : Rdr) (b : af) (number : Int) : Option (Int × Rdr) := alF N (ad9 N) r b number
def y9 (N : Nat) (list : List Txt) (most : Int) (next : T11) : T11 := fun i8 mD nD bD => bif decide (i8 < list.length) then
 bif decide ((bD.length : Int) < most) then ob (F.gK N (mD, nD) 4) dR fun bA => bif bA.1 == 0 then bif decide (0 ≤ i8) then
 bif decide (i8 < list.length) then bif decide ((bD.length + 1) * 16 ≤ lim) then
 next (i64.wrap (i8 + 1)) bA.2.1 bA.2.2 (bD ++ [list.getD i8.toNat []]) else none else none else none else next (i64.wrap (i8 + 1)) bA.2.1 bA.2.2 bD else
 some (bD, mD, nD) else some (bD, mD, nD)
def ZK (N : Nat) (list : List Txt) (most : Int) : Nat → Int → (List Int) → Int → (List Txt) → Option (List Txt × Rdr) := lp (fun _ _ _ _ => none) fun next => y9 N list most next
def alA (N : Nat) (I0 : (List Txt) → Int → Nat → Int → (List Int) → Int → (List Txt) → Option (List Txt × Rdr)) (r : Rdr) (list : List Txt) (most : Int) : Option (List Txt × Rdr) :=
 I0 list most N 0 r.1 r.2 []
def aa0 (N : Nat) (r : Rdr) (list : List Txt) (most : Int) : Option (List Txt × Rdr) := alA N (ZK N) r list most
def qQ (N : Nat) (qD : T14) (b : af) (number : Int) (fE : Int) (gE : Int) (hE : Int) (i8 : Int) (fA : Int × Rdr) (next : T27) : T27 := fun k9 sF =>
 bif decide (0 ≤ i8) then bif decide (i8 < b.2.1.length) then bif decide (k9 < (((b.2.1.getD i8.toNat aJ).2.2.2.2.length) : Int)) then
 bif decide (0 ≤ i8) then bif decide (i8 < b.2.1.length) then bif decide (0 ≤ k9) then
 bif decide (k9 < (((b.2.1.getD i8.toNat aJ).2.2.2.2.length) : Int)) then
 ob (F.aaI N sF (List.getD (b.2.1.getD i8.toNat aJ).2.2.2.2 k9.toNat [])) [] fun cA => next (i64.wrap (k9 + 1)) cA else none else none else none else none
 else qD (i64.wrap (i8 + 1)) fA.2.1 fA.2.2 sF else none else none
def sN (N : Nat) (qD : T14) (b : af) (number : Int) (fE : Int) (gE : Int) (hE : Int) (i8 : Int) (fA : Int × Rdr) : T19 := lp (fun _ _ => none) fun next => qQ N qD b number fE gE hE i8 fA next
def qV (N : Nat) (yF : T8) (b : af) (number : Int) (pB : Int) (qB : Int) (wA : Int) (jC : Int) (uA : List Use) (cD : Txt) (vC : Int) (dD : Int) (next : T14) : T14 := fun eI oD pD wC =>
 bif decide (0 ≤ jC) then bif decide (jC < b.2.1.length) then bif decide (eI < (((b.2.1.getD jC.toNat aJ).2.2.2.2.length) : Int)) then bif wA == 1 then
 bif vC != 2 then ob (F.gK N (oD, pD) 4) dR fun kA => bif decide (kA.1 > 0) then bif decide (0 ≤ jC) then bif decide (jC < b.2.1.length) then
 bif decide (0 ≤ eI) then bif decide (eI < (((b.2.1.getD jC.toNat aJ).2.2.2.2.length) : Int)) then
 ob (F.aaI N wC (List.getD (b.2.1.getD jC.toNat aJ).2.2.2.2 eI.toNat [])) [] fun wB =>
 next (i64.wrap (eI + 1)) kA.2.1 kA.2.2 wB else none else none else none else none else bif decide ((uA.length + 1) * 32 ≤ lim) then
 yF (i64.wrap (jC + 1)) kA.2.1 kA.2.2 wC (uA ++ [(cD, vC, dD)]) else none else bif decide ((uA.length + 1) * 32 ≤ lim) then
 yF (i64.wrap (jC + 1)) oD pD wC (uA ++ [(cD, vC, dD)]) else none else bif decide ((uA.length + 1) * 32 ≤ lim) then
 yF (i64.wrap (jC + 1)) oD pD wC (uA ++ [(cD, vC, dD)]) else none else bif decide ((uA.length + 1) * 32 ≤ lim) then
 yF (i64.wrap (jC + 1)) oD pD wC (uA ++ [(cD, vC, dD)]) else none else none else none
def pM (N : Nat) (yF : T8) (b : af) (number : Int) (pB : Int) (qB : Int) (wA : Int) (jC : Int) (uA : List Use) (cD : Txt) (vC : Int) (dD : Int) : T10 := lp (fun _ _ _ _ => none) fun next => qV N yF b number pB qB wA jC uA cD vC dD next
def qj (N : Nat) (number : Int) (pB : Int) (qB : Int) (wA : Int) (rB : List Txt) (uA : List Use) (tA : List Txt × Rdr) (aB : List Txt × Rdr) (next : T27) : T27 := fun uG pE =>
 bif decide (uG < aB.1.length) then bif decide (0 ≤ uG) then bif decide (uG < aB.1.length) then ob (F.xw N tA.1 (aB.1.getD uG.toNat [])) false fun hB =>
 bif !hB then bif decide (0 ≤ uG) then bif decide (uG < aB.1.length) then bif decide ((pE.length + 1) * 16 ≤ lim) then
 next (i64.wrap (uG + 1)) (pE ++ [aB.1.getD uG.toNat []]) else none else none else none else next (i64.wrap (uG + 1)) pE else none else none else
 some ((number, wA, rB, uA, pE, tA.1), aB.2)
def sJ (N : Nat) (number : Int) (pB : Int) (qB : Int) (wA : Int) (rB : List Txt) (uA : List Use) (tA : List Txt × Rdr) (aB : List Txt × Rdr) : T19 := lp (fun _ _ => none) fun next => qj N number pB qB wA rB uA tA aB next
def qi (N : Nat) (I1 : Int → (List Use) → Txt → Int → Int → Nat → Int → (List Int) → Int → (List Txt) → Option (aK × Rdr)) (I2 : Int → Int → Int → Int → (List Txt) → (List Use) → (List Txt × Rdr) → (List Txt × Rdr) → Nat → Int → (List Txt) → Option (aK × Rdr)) (b : af) (number : Int) (pB : Int) (qB : Int) (wA : Int) (next : T8) : T8 := fun jC tF uF rB uA =>
 bif decide (jC < b.2.1.length) then ob (F.gK N (tF, uF) 3) dR fun nA => bif decide (nA.1 > 0) then next (i64.wrap (jC + 1)) nA.2.1 nA.2.2 rB uA else
 bif decide (0 ≤ jC) then bif decide (jC < b.2.1.length) then bif wA == 1 then bif decide (0 ≤ jC) then bif decide (jC < b.2.1.length) then
 bif decide ((b.2.1.getD jC.toNat aJ).2.1 > 0) then ob (F.gK N nA.2 2) dR fun jA => ob (F.gK N jA.2 14) dR fun oA =>
 I1 jC uA ((b.2.1.getD jC.toNat aJ).1) (i64.wrap (1 + jA.1)) (i64.wrap (1 + oA.1)) N 0 oA.2.1 oA.2.2 rB else
 I1 jC uA ((b.2.1.getD jC.toNat aJ).1) 3 0 N 0 nA.2.1 nA.2.2 rB else none else none else
 I1 jC uA ((b.2.1.getD jC.toNat aJ).1) 3 0 N 0 nA.2.1 nA.2.2 rB else none else none else ob (F.aa0 N (tF, uF) b.2.2.1 4) ([], [], Int.ofNat 0) fun tA =>
 bif wA == 1 then ob (F.aa0 N tA.2 b.2.2.1 3) ([], [], Int.ofNat 0) fun aB => I2 number pB qB wA rB uA tA aB N 0 [] else
 some ((number, wA, rB, uA, [], tA.1), tA.2)
def nY (N : Nat) (b : af) (number : Int) (pB : Int) (qB : Int) (wA : Int) : Nat → Int → (List Int) → Int → (List Txt) → (List Use) → Option (aK × Rdr) := lp (fun _ _ _ _ _ => none) fun next => qi N (pM N next b number pB qB wA) (sJ N) b number pB qB wA next
def qJ (N : Nat) (I0 : Int → (Int × Rdr) → Nat → Int → (List Txt) → Option (aK × Rdr)) (I3 : T1) (b : af) (number : Int) (fE : Int) (gE : Int) (hE : Int) (next : T14) : T14 := fun i8 mD nD pH =>
 bif decide (i8 < b.2.1.length) then ob (F.gK N (mD, nD) 4) dR fun fA => bif fA.1 == 0 then I0 i8 fA N 0 pH else I3 b number fE gE hE N 0 fA.2.1 fA.2.2 pH []
 else I3 b number fE gE hE N 0 mD nD pH []
def OU (N : Nat) (b : af) (number : Int) (fE : Int) (gE : Int) (hE : Int) : T10 := lp (fun _ _ _ _ => none) fun next => qJ N (sN N next b number fE gE hE) (nY N) b number fE gE hE next
def YP (N : Nat) (I4 : af → Int → Int → Int → Int → Nat → Int → (List Int) → Int → (List Txt) → Option (aK × Rdr)) (I3 : T1) (r : Rdr) (b : af) (number : Int) : Option (aK × Rdr) :=
 ob (F.gK N r 5) dR fun aA => bif decide (0 ≤ aA.1) then bif decide (aA.1 < (↑[1, 1, 1, 2, 3].length : Int)) then
 bif [1, 1, 1, 2, 3].getD aA.1.toNat (Int.ofNat 0) == 1 then
 ob (F.BG N aA.2 [[97, 108, 101], [109, 97, 108, 116], [119, 97, 116, 101, 114], [108, 121, 101]]) ([], [], Int.ofNat 0) fun bA =>
 I4 b number 0 0 ([1, 1, 1, 2, 3].getD aA.1.toNat (Int.ofNat 0)) N 0 bA.2.1 bA.2.2 [bA.1] else
 I3 b number 0 0 ([1, 1, 1, 2, 3].getD aA.1.toNat (Int.ofNat 0)) N 0 aA.2.1 aA.2.2 [] [] else none else none
def Uj (N : Nat) (r : Rdr) (b : af) (number : Int) : Option (aK × Rdr) := YP N (OU N) (nY N) r b number
def wQ (N : Nat) (aA : aK) (lB : Int × Rdr) (n6 : Int) (fI : Int) (gI : Int) (next : T27) : T27 := fun i7 qE => bif decide ((qE.length : Int) < n6) then
 ob (F.jO N (i64.wrap (10 + i7))) [] fun gC => bif decide (1 + gC.length ≤ lim) then bif decide ((qE.length + 1) * 16 ≤ lim) then
 next (i64.wrap (i7 + 1)) (qE ++ [[122] ++ gC]) else none else none else some ((aA.1, aA.2.1, aA.2.2.1, aA.2.2.2.1, aA.2.2.2.2.1, qE), lB.2)
def Yz (N : Nat) (aA : aK) (lB : Int × Rdr) (n6 : Int) (fI : Int) (gI : Int) : T19 := lp (fun _ _ => none) fun next => wQ N aA lB n6 fI gI next
def ahJ (N : Nat) (I0 : aK → (Int × Rdr) → Int → Int → Int → Nat → Int → (List Txt) → Option (aK × Rdr)) (r : Rdr) (w : aK) : Option (aK × Rdr) :=
 ob (F.abf N w) rY fun aA => ob (F.gK N r 8) dR fun bA => bif bA.1 == 0 then ob (F.gK N bA.2 4) dR fun fA => bif decide (0 ≤ fA.1) then
 bif decide (fA.1 < (↑[0, -1, 1000000, 1000001].length : Int)) then
 some (([0, -1, 1000000, 1000001].getD fA.1.toNat (Int.ofNat 0), aA.2), fA.2) else none else none else bif bA.1 == 1 then ob (F.gK N bA.2 6) dR fun cA =>
 some ((aA.1, i64.wrap (cA.1 - 1), aA.2.2), cA.2) else bif bA.1 == 2 then ob (F.gK N bA.2 5) dR fun nA => bif decide (0 ≤ nA.1) then
 bif decide (nA.1 < (↑[[], [[65]], [[97, 108, 101], [97, 108, 101]], [[97, 108, 101]], [[97, 108, 101], [108, 121, 101]]].length : Int)) then
 some ((aA.1, aA.2.1, [[], [[65]], [[97, 108, 101], [97, 108, 101]], [[97, 108, 101]], [[97, 108, 101], [108, 121, 101]]].getD nA.1.toNat [], aA.2.2.2), nA.2) else none else none
 else bif bA.1 == 3 then ob (F.BG N bA.2 [[], [107, 101, 103], [122, 122]]) ([], [], Int.ofNat 0) fun jA => ob (F.gK N jA.2 5) dR fun oA =>
 ob (F.gK N oA.2 3) dR fun kA => bif decide ((aA.2.2.2.1.length + 1) * 32 ≤ lim) then
 some ((aA.1, aA.2.1, aA.2.2.1, aA.2.2.2.1 ++ [(jA.1, oA.1, kA.1)], aA.2.2.2.2), kA.2) else none else bif bA.1 == 4 then
 bif decide ((aA.2.2.2.1.length : Int) > 0) then ob (F.gK N bA.2 (aA.2.2.2.1.length : Int)) dR fun wB => ob (F.gK N wB.2 4) dR fun tA =>
 bif decide (0 ≤ tA.1) then bif decide (tA.1 < (↑[-1, 0, 1000, 1001].length : Int)) then bif decide (0 ≤ wB.1) then bif decide (wB.1 < aA.2.2.2.1.length) then
 let vG : List Use := List.set aA.2.2.2.1 wB.1.toNat ((aA.2.2.2.1.getD wB.1.toNat bY).1, (aA.2.2.2.1.getD wB.1.toNat bY).2.1, [-1, 0, 1000, 1001].getD tA.1.toNat (Int.ofNat 0))
 some ((aA.1, aA.2.1, aA.2.2.1, vG, aA.2.2.2.2), tA.2) else none else none else none else none else some (aA, bA.2) else bif bA.1 == 5 then
 ob (F.BG N bA.2 [[], [97], [122, 122]]) ([], [], Int.ofNat 0) fun aB => bif decide ((aA.2.2.2.2.1.length + 1) * 16 ≤ lim) then
 some ((aA.1, aA.2.1, aA.2.2.1, aA.2.2.2.1, aA.2.2.2.2.1 ++ [aB.1], aA.2.2.2.2.2), aB.2) else none else bif bA.1 == 6 then
 ob (F.BG N bA.2 [[], [97], [122, 122]]) ([], [], Int.ofNat 0) fun hB => bif decide ((aA.2.2.2.2.2.length + 1) * 16 ≤ lim) then
 some ((aA.1, aA.2.1, aA.2.2.1, aA.2.2.2.1, aA.2.2.2.2.1, aA.2.2.2.2.2 ++ [hB.1]), hB.2) else none else ob (F.gK N bA.2 2) dR fun lB =>
 I0 aA lB (i64.wrap (12 + lB.1)) 0 0 N 0 aA.2.2.2.2.2
def aap (N : Nat) (r : Rdr) (w : aK) : Option (aK × Rdr) := ahJ N (Yz N) r w
def Ti (N : Nat) (r : Rdr) (b : af) : Option (Do × Rdr) := ob (F.gK N r 8) dR fun aA => bif aA.1 == 0 then ob (F.zZ N aA.2 b) dR fun bA =>
 some (((0, 0, [], [], [], []), bA.1, 0, 0, false), bA.2) else bif aA.1 == 1 then ob (F.zZ N aA.2 b) dR fun fA =>
 some (((0, 0, [], [], [], []), fA.1, 0, 0, false), fA.2) else bif aA.1 == 2 then ob (F.zZ N aA.2 b) dR fun cA => ob (F.aiD N cA.2 b cA.1) dR fun nA =>
 ob (F.gK N nA.2 3) dR fun jA => some (((0, 0, [], [], [], []), 0, cA.1, nA.1, decide (jA.1 > 0)), jA.2) else bif aA.1 == 3 then
 ob (F.zZ N aA.2 b) dR fun oA => ob (F.aiD N oA.2 b oA.1) dR fun kA => ob (F.gK N kA.2 3) dR fun wB =>
 some (((0, 0, [], [], [], []), 0, oA.1, kA.1, decide (wB.1 > 0)), wB.2) else ob (F.gK N aA.2 2) dR fun tA =>
 ob (F.Uj N tA.2 b (i64.wrap (i64.wrap (b.2.2.2.2 + 1) + tA.1))) (rY, [], Int.ofNat 0) fun aB => ob (F.gK N aB.2 12) dR fun hB => bif hB.1 == 0 then
 ob (F.gK N hB.2 (i64.wrap (b.2.2.2.2 + 1))) dR fun lB => some (((i64.wrap (1 + lB.1), aB.1.2), 0, 0, 0, false), lB.2) else bif hB.1 == 1 then
 ob (F.aap N hB.2 aB.1) (rY, [], Int.ofNat 0) fun rD => some ((rD.1, 0, 0, 0, false), rD.2) else bif hB.1 == 2 then
 bif decide ((b.2.2.2.1.length : Int) > 0) then ob (F.gK N hB.2 (b.2.2.2.1.length : Int)) dR fun gC => bif decide (0 ≤ gC.1) then
 bif decide (gC.1 < b.2.2.2.1.length) then ob (F.abf N (b.2.2.2.1.getD gC.1.toNat bU).1) rY fun uE =>
 some ((uE, 0, 0, 0, false), gC.2) else none else none else some ((aB.1, 0, 0, 0, false), hB.2) else some ((aB.1, 0, 0, 0, false), hB.2)
def Wp (N : Nat) (b : af) (d : Do) : Option af := bif decide (d.2.1 > 0) then ob (F.akp N b d.2.1) (dB, Int.ofNat 0) fun r => some r.1 else
 bif decide (d.2.2.1 > 0) then ob (F.aez N b d.2.2.1 d.2.2.2.1 d.2.2.2.2) (dB, Int.ofNat 0) fun aA => some aA.1 else
 ob (F.abd N b d.1) (dB, Int.ofNat 0) fun bA => some bA.1
def Jb (N : Nat) (uses : List Use) (next : T47) : T47 := fun i4 hA => bif decide (i4 < uses.length) then bif decide (0 ≤ i4) then
 bif decide (i4 < uses.length) then bif decide (0 ≤ i4) then bif decide (i4 < uses.length) then bif (uses.getD i4.toNat bY).2.1 == 1 then
 bif decide ((uses.getD i4.toNat bY).1.length + 1 ≤ lim) then bif decide (0 ≤ i4) then bif decide (i4 < uses.length) then
 ob (F.jO N (uses.getD i4.toNat bY).2.2) [] fun r => bif decide (((uses.getD i4.toNat bY).1 ++ [60]).length + r.length ≤ lim) then
 bif decide (0 ≤ i4) then bif decide (i4 < uses.length) then bif (uses.getD i4.toNat bY).2.1 == 2 then
 bif decide (((uses.getD i4.toNat bY).1 ++ [60] ++ r).length + 1 ≤ lim) then bif decide (0 ≤ i4) then bif decide (i4 < uses.length) then
 ob (F.jO N (uses.getD i4.toNat bY).2.2) default fun aA => bif decide (((uses.getD i4.toNat bY).1 ++ [60] ++ r ++ [62]).length + r.length ≤ lim) then
 bif decide ((hA.length + 1) * 16 ≤ lim) then
 next (i64.wrap (i4 + 1)) (hA ++ [(uses.getD i4.toNat bY).1 ++ [60] ++ r ++ [62] ++ r]) else none else none else none else none else none else
 bif decide ((hA.length + 1) * 16 ≤ lim) then
 next (i64.wrap (i4 + 1)) (hA ++ [(uses.getD i4.toNat bY).1 ++ [60] ++ r]) else none else none else none else none else none else none else none else
 bif decide (0 ≤ i4) then bif decide (i4 < uses.length) then bif (uses.getD i4.toNat bY).2.1 == 2 then
 bif decide ((uses.getD i4.toNat bY).1.length + 1 ≤ lim) then bif decide (0 ≤ i4) then bif decide (i4 < uses.length) then
 ob (F.jO N (uses.getD i4.toNat bY).2.2) [] fun bA => bif decide (((uses.getD i4.toNat bY).1 ++ [62]).length + bA.length ≤ lim) then
 bif decide ((hA.length + 1) * 16 ≤ lim) then
 next (i64.wrap (i4 + 1)) (hA ++ [(uses.getD i4.toNat bY).1 ++ [62] ++ bA]) else none else none else none else none else none else
 bif decide ((hA.length + 1) * 16 ≤ lim) then
 next (i64.wrap (i4 + 1)) (hA ++ [(uses.getD i4.toNat bY).1]) else none else none else none else none else none else none else none else
 ob (F.Dl N hA [44]) [] fun fA => some fA
def ads (N : Nat) (uses : List Use) : T38 := lp (fun _ _ => none) fun next => Jb N uses next
def alk (N : Nat) (I0 : (List Use) → Nat → Int → (List Txt) → Option Txt) (uses : List Use) : Option Txt := I0 uses N 0 []
def amQ (N : Nat) (uses : List Use) : Option Txt := alk N (ads N) uses
def ajv (N : Nat) (w : aK) : Option Txt := ob (F.jO N w.1) [] fun r => bif decide (1 + r.length ≤ lim) then
 bif decide (([32] ++ r).length + 1 ≤ lim) then ob (F.amQ N w.2.2.2.1) [] fun aA => bif decide (([32] ++ r ++ [32]).length + aA.length ≤ lim) then
 bif decide (([32] ++ r ++ [32] ++ aA).length + 1 ≤ lim) then ob (F.Dl N w.2.2.2.2.1 [44]) [] fun bA =>
 bif decide (([32] ++ r ++ [32] ++ aA ++ [32]).length + bA.length ≤ lim) then bif decide (([32] ++ r ++ [32] ++ aA ++ [32] ++ bA).length + 1 ≤ lim) then
 ob (F.Dl N w.2.2.2.2.2 [44]) [] fun fA => bif decide (([32] ++ r ++ [32] ++ aA ++ [32] ++ bA ++ [32]).length + fA.length ≤ lim) then
 bif decide (([32] ++ r ++ [32] ++ aA ++ [32] ++ bA ++ [32] ++ fA).length + 1 ≤ lim) then bif w.2.1 == 1 then ob (F.Dl N w.2.2.1 [44]) [] fun cA =>
 bif decide ([109, 111, 118, 101, 32].length + cA.length ≤ lim) then
 bif decide (([109, 111, 118, 101, 32] ++ cA).length + ([32] ++ r ++ [32] ++ aA ++ [32] ++ bA ++ [32] ++ fA ++ [10]).length ≤ lim) then
 some ([109, 111, 118, 101, 32] ++ cA ++ ([32] ++ r ++ [32] ++ aA ++ [32] ++ bA ++ [32] ++ fA ++ [10])) else none else none else bif w.2.1 == 2 then
 bif decide ([99, 108, 101, 97, 110].length + ([32] ++ r ++ [32] ++ aA ++ [32] ++ bA ++ [32] ++ fA ++ [10]).length ≤ lim) then
 some ([99, 108, 101, 97, 110] ++ ([32] ++ r ++ [32] ++ aA ++ [32] ++ bA ++ [32] ++ fA ++ [10])) else none else
 bif decide ([112, 101, 114, 109, 105, 116].length + ([32] ++ r ++ [32] ++ aA ++ [32] ++ bA ++ [32] ++ fA ++ [10]).length ≤ lim) then
 some ([112, 101, 114, 109, 105, 116] ++ ([32] ++ r ++ [32] ++ aA ++ [32] ++ bA ++ [32] ++ fA ++ [10])) else none else none else none else none else none else none else none else none else none
def anJ (g_f_57 : Rdr → (Int) → Option ((Int) × Rdr)) (g_f_82 : Rdr → (List Txt) → Option (Txt × Rdr)) (r : Rdr) (b : af) : Option (Txt × Rdr) :=
 bif decide ((b.2.2.1.length : Int) > 0) then ob (g_f_57 r 10) dR fun aA => bif decide (aA.1 > 0) then ob (g_f_57 aA.2 (b.2.2.1.length : Int)) dR fun bA =>
 bif decide (0 ≤ bA.1) then bif decide (bA.1 < b.2.2.1.length) then some (b.2.2.1.getD bA.1.toNat [], bA.2) else none else none else
 ob (g_f_82 aA.2 [[], [122, 122], [97]]) ([], [], Int.ofNat 0) fun fA => some fA else ob (g_f_82 r [[], [122, 122], [97]]) ([], [], Int.ofNat 0) fun cA =>
 some cA
def aiK (N : Nat) (r : Rdr) (b : af) : Option (Txt × Rdr) := anJ (F.gK N) (F.BG N) r b
def AB (N : Nat) (next : T50) : T50 := fun s0 n1 zA => bif decide (n1 > 0) then bif Int.tmod n1 2 == 1 then bif decide (zA.length + s0.length ≤ lim) then
 bif decide (s0.length + s0.length ≤ lim) then next (s0 ++ s0) (i64.wrap (Int.tdiv n1 2)) (zA ++ s0) else none else none else
 bif decide (s0.length + s0.length ≤ lim) then next (s0 ++ s0) (i64.wrap (Int.tdiv n1 2)) zA else none else some zA
def LW (N : Nat) : T39 := lp (fun _ _ _ => none) fun next => AB N next
def avN (N : Nat) (I0 : T39) (s : Txt) (n0 : Int) : Option Txt := I0 N s n0 []
def alQ (N : Nat) (s : Txt) (n0 : Int) : Option Txt := avN N (LW N) s n0
def KN (N : Nat) (next : T3) (o : Txt) (n8 : Int) (r : Rdr) (bk : af) : Option Txt := ob (F.gK N r 6) dR fun q0 => bif q0.1 == 0 then (bif decide (o.length + [115, 104, 111, 119, 32].length ≤ lim) then (ob (F.BG N q0.2 [[107, 101, 103], [116, 117, 110], [118, 97, 116], [110, 111, 110, 101]]) ([], [], Int.ofNat 0) fun q1 => bif decide ((o ++ [115, 104, 111, 119, 32]).length + q1.1.length ≤ lim) then (bif decide ((o ++ [115, 104, 111, 119, 32] ++ q1.1).length + 1 ≤ lim) then (next (o ++ [115, 104, 111, 119, 32] ++ q1.1 ++ [10]) (i64.wrap (n8 - 1)) q1.2.1 q1.2.2 bk.1 bk.2.1 bk.2.2.1 bk.2.2.2.1 bk.2.2.2.2) else none) else none) else none) else (bif q0.1 == 1 then (bif decide (o.length + [118, 97, 108, 118, 101, 32].length ≤ lim) then (ob (F.aiK N q0.2 bk) ([], [], Int.ofNat 0) fun q2 => bif decide ((o ++ [118, 97, 108, 118, 101, 32]).length + q2.1.length ≤ lim) then (bif decide ((o ++ [118, 97, 108, 118, 101, 32] ++ q2.1).length + 1 ≤ lim) then (next (o ++ [118, 97, 108, 118, 101, 32] ++ q2.1 ++ [10]) (i64.wrap (n8 - 1)) q2.2.1 q2.2.2 bk.1 bk.2.1 bk.2.2.1 bk.2.2.2.1 bk.2.2.2.2) else none) else none) else none) else (bif q0.1 == 2 then (ob (F.BG N q0.2 [[], [119, 104, 97, 116], [102, 111, 101, 32, 97, 108, 101, 32, 97, 108, 101], [115, 112, 111, 116, 32, 113, 32, 53, 32, 54, 32, 45], [115, 112, 111, 116, 32, 113, 32, 53, 32, 120, 32, 45], [115, 112, 111, 116, 32, 107, 101, 103, 32, 53, 32, 49, 32, 45], [118, 97, 108, 118, 101, 115, 32, 98, 44, 97], [109, 111, 118, 101, 32, 97, 108, 101, 32, 49, 32, 45, 32, 45, 32, 45], [109, 111, 118, 101, 32, 97, 108, 101], [115, 116, 111, 112], [111, 118, 101, 114, 32, 49], [99, 108, 101, 97, 110, 101, 100, 32, 120], [115, 104, 111, 119], [118, 97, 108, 118, 101]]) ([], [], Int.ofNat 0) fun q3 => bif decide (o.length + q3.1.length ≤ lim) then (bif decide ((o ++ q3.1).length + 1 ≤ lim) then (next (o ++ q3.1 ++ [10]) (i64.wrap (n8 - 1)) q3.2.1 q3.2.2 bk.1 bk.2.1 bk.2.2.1 bk.2.2.2.1 bk.2.2.2.2) else none) else none) else (next (o) (i64.wrap (n8 - 1)) q0.2.1 q0.2.2 bk.1 bk.2.1 bk.2.2.1 bk.2.2.2.1 bk.2.2.2.2)))
def Ii (N : Nat) (next : T3) : T3 := fun iA n8 rE sE vF hG iG jG wF => bif decide (n8 > 0) then
 ob (F.Ti N (rE, sE) (vF, hG, iG, jG, wF)) ((rY, Int.ofNat 0, Int.ofNat 0, Int.ofNat 0, false), [], Int.ofNat 0) fun jA =>
 ob (F.Wp N (vF, hG, iG, jG, wF) jA.1) dB fun oA => bif jA.1.2.1 != 0 then bif decide (iA.length + [115, 116, 111, 112, 32].length ≤ lim) then
 ob (F.jO N jA.1.2.1) [] fun kA => bif decide ((iA ++ [115, 116, 111, 112, 32]).length + kA.length ≤ lim) then
 bif decide ((iA ++ [115, 116, 111, 112, 32] ++ kA).length + 1 ≤ lim) then
 KN N next (iA ++ [115, 116, 111, 112, 32] ++ kA ++ [10]) n8 jA.2 oA else none else none else none else bif jA.1.2.2.1 != 0 then bif jA.1.2.2.2.2 then
 bif decide (iA.length + [99, 108, 101, 97, 110, 101, 100, 32].length ≤ lim) then ob (F.jO N jA.1.2.2.1) [] fun lB =>
 bif decide ((iA ++ [99, 108, 101, 97, 110, 101, 100, 32]).length + lB.length ≤ lim) then
 bif decide ((iA ++ [99, 108, 101, 97, 110, 101, 100, 32] ++ lB).length + 1 ≤ lim) then
 KN N next (iA ++ [99, 108, 101, 97, 110, 101, 100, 32] ++ lB ++ [10]) n8 jA.2 oA else none else none else none else bif jA.1.2.2.1 != 0 then
 bif decide (iA.length + [111, 118, 101, 114, 32].length ≤ lim) then ob (F.jO N jA.1.2.2.1) [] fun gD =>
 bif decide ((iA ++ [111, 118, 101, 114, 32]).length + gD.length ≤ lim) then bif decide ((iA ++ [111, 118, 101, 114, 32] ++ gD).length + 1 ≤ lim) then
 ob (F.jO N jA.1.2.2.2.1) [] fun sD => bif decide ((iA ++ [111, 118, 101, 114, 32] ++ gD ++ [32]).length + sD.length ≤ lim) then
 bif decide ((iA ++ [111, 118, 101, 114, 32] ++ gD ++ [32] ++ sD).length + 1 ≤ lim) then
 KN N next (iA ++ [111, 118, 101, 114, 32] ++ gD ++ [32] ++ sD ++ [10]) n8 jA.2 oA else none else none else none else none else none else
 ob (F.ajv N jA.1.1) [] fun vE => bif decide (iA.length + vE.length ≤ lim) then KN N next (iA ++ vE) n8 jA.2 oA else none else bif jA.1.2.2.1 != 0 then
 bif decide (iA.length + [111, 118, 101, 114, 32].length ≤ lim) then ob (F.jO N jA.1.2.2.1) [] fun lE =>
 bif decide ((iA ++ [111, 118, 101, 114, 32]).length + lE.length ≤ lim) then bif decide ((iA ++ [111, 118, 101, 114, 32] ++ lE).length + 1 ≤ lim) then
 ob (F.jO N jA.1.2.2.2.1) [] fun oF => bif decide ((iA ++ [111, 118, 101, 114, 32] ++ lE ++ [32]).length + oF.length ≤ lim) then
 bif decide ((iA ++ [111, 118, 101, 114, 32] ++ lE ++ [32] ++ oF).length + 1 ≤ lim) then
 KN N next (iA ++ [111, 118, 101, 114, 32] ++ lE ++ [32] ++ oF ++ [10]) n8 jA.2 oA else none else none else none else none else none else
 ob (F.ajv N jA.1.1) [] fun pF => bif decide (iA.length + pF.length ≤ lim) then KN N next (iA ++ pF) n8 jA.2 oA else none else
 ob (F.gK N (rE, sE) 24) dR fun mC => bif mC.1 == 0 then ob (F.gK N mC.2 2) dR fun lD =>
 ob (F.alQ N [115, 104, 111, 119, 32, 107, 101, 103, 10] (i64.wrap (200 + lD.1))) [] fun dE => some dE else bif mC.1 == 1 then
 ob (F.gK N mC.2 2) dR fun yE => ob (F.alQ N [120] (i64.wrap (10000 + yE.1))) [] fun tG => some tG else some iA
def Mc (N : Nat) : T2 := lp (fun _ _ _ _ _ _ _ _ _ => none) fun next => Ii N next
def Ew (N : Nat) (I0 : T2) (xC : List Int) (yC : Int) (vB : List Foe) (hD : Int) (kC : List Txt) (zC : List dm) (next : T36) : T36 := fun bB i7 eA =>
 bif decide (i7 < eA.length) then bif decide (bB.length + [115, 112, 111, 116, 32].length ≤ lim) then bif decide (0 ≤ i7) then bif decide (i7 < eA.length) then
 bif decide ((bB ++ [115, 112, 111, 116, 32]).length + (eA.getD i7.toNat aJ).1.length ≤ lim) then
 bif decide ((bB ++ [115, 112, 111, 116, 32] ++ (eA.getD i7.toNat aJ).1).length + 1 ≤ lim) then bif decide (0 ≤ i7) then bif decide (i7 < eA.length) then
 ob (F.jO N (eA.getD i7.toNat aJ).2.1) [] fun aA =>
 bif decide ((bB ++ [115, 112, 111, 116, 32] ++ (eA.getD i7.toNat aJ).1 ++ [32]).length + aA.length ≤ lim) then
 bif decide ((bB ++ [115, 112, 111, 116, 32] ++ (eA.getD i7.toNat aJ).1 ++ [32] ++ aA).length + 1 ≤ lim) then bif decide (0 ≤ i7) then
 bif decide (i7 < eA.length) then ob (F.jO N (eA.getD i7.toNat aJ).2.2.1) [] fun bA =>
 bif decide ((bB ++ [115, 112, 111, 116, 32] ++ (eA.getD i7.toNat aJ).1 ++ [32] ++ aA ++ [32]).length + bA.length ≤ lim) then
 bif decide ((bB ++ [115, 112, 111, 116, 32] ++ (eA.getD i7.toNat aJ).1 ++ [32] ++ aA ++ [32] ++ bA).length + 1 ≤ lim) then bif decide (0 ≤ i7) then
 bif decide (i7 < eA.length) then ob (F.Dl N (eA.getD i7.toNat aJ).2.2.2.2 [44]) [] fun fA =>
 bif decide ((bB ++ [115, 112, 111, 116, 32] ++ (eA.getD i7.toNat aJ).1 ++ [32] ++ aA ++ [32] ++ bA ++ [32]).length + fA.length ≤ lim) then
 bif decide ((bB ++ [115, 112, 111, 116, 32] ++ (eA.getD i7.toNat aJ).1 ++ [32] ++ aA ++ [32] ++ bA ++ [32] ++ fA).length + 1 ≤ lim) then
 bif decide (0 ≤ i7) then bif decide (i7 < eA.length) then bif decide (0 ≤ i7) then bif decide (i7 < eA.length) then
 let qH : List bi := eA.set i7.toNat ((eA.getD i7.toNat aJ).1, (eA.getD i7.toNat aJ).2.1, (eA.getD i7.toNat aJ).2.2.1, (eA.getD i7.toNat aJ).2.2.1, (eA.getD i7.toNat aJ).2.2.2.2)
 next (bB ++ [115, 112, 111, 116, 32] ++ (eA.getD i7.toNat aJ).1 ++ [32] ++ aA ++ [32] ++ bA ++ [32] ++ fA ++ [10]) (i64.wrap (i7 + 1)) qH else none else none else none else none else none else none else none else none else none else none else none else none else none else none else none else none else none else none else none else none else none
 else bif decide (bB.length + [118, 97, 108, 118, 101, 115, 32].length ≤ lim) then ob (F.Dl N kC [44]) [] fun cA =>
 bif decide ((bB ++ [118, 97, 108, 118, 101, 115, 32]).length + cA.length ≤ lim) then
 bif decide ((bB ++ [118, 97, 108, 118, 101, 115, 32] ++ cA).length + 1 ≤ lim) then ob (F.gK N (xC, yC) 16) dR fun nA =>
 I0 N (bB ++ [118, 97, 108, 118, 101, 115, 32] ++ cA ++ [10]) nA.1 nA.2.1 nA.2.2 vB eA kC zC hD else none else none else none
def MM (N : Nat) (xC : List Int) (yC : Int) (vB : List Foe) (hD : Int) (kC : List Txt) (zC : List dm) : Nat → Txt → Int → (List bi) → Option Txt := lp (fun _ _ _ => none) fun next => Ew N (Mc N) xC yC vB hD kC zC next
def Jt (N : Nat) (I1 : (List Int) → Int → (List Foe) → Int → (List Txt) → (List dm) → Nat → Txt → Int → (List bi) → Option Txt) (xC : List Int) (yC : Int) (vB : List Foe) (hD : Int) (xF : List bi) (kC : List Txt) (zC : List dm) (next : T54) : T54 := fun zA i6 =>
 bif decide (i6 < vB.length) then bif decide (zA.length + [102, 111, 101, 32].length ≤ lim) then bif decide (0 ≤ i6) then bif decide (i6 < vB.length) then
 bif decide ((zA ++ [102, 111, 101, 32]).length + (vB.getD i6.toNat jd).1.length ≤ lim) then
 bif decide ((zA ++ [102, 111, 101, 32] ++ (vB.getD i6.toNat jd).1).length + 1 ≤ lim) then bif decide (0 ≤ i6) then bif decide (i6 < vB.length) then
 bif decide ((zA ++ [102, 111, 101, 32] ++ (vB.getD i6.toNat jd).1 ++ [32]).length + (vB.getD i6.toNat jd).2.length ≤ lim) then
 bif decide ((zA ++ [102, 111, 101, 32] ++ (vB.getD i6.toNat jd).1 ++ [32] ++ (vB.getD i6.toNat jd).2).length + 1 ≤ lim) then
 next (zA ++ [102, 111, 101, 32] ++ (vB.getD i6.toNat jd).1 ++ [32] ++ (vB.getD i6.toNat jd).2 ++ [10]) (i64.wrap (i6 + 1)) else none else none else none else none else none else none else none else none else none
 else I1 xC yC vB hD kC zC N zA 0 xF
def ZB (N : Nat) (xC : List Int) (yC : Int) (vB : List Foe) (hD : Int) (xF : List bi) (kC : List Txt) (zC : List dm) : T49 := lp (fun _ _ => none) fun next => Jt N (MM N) xC yC vB hD xF kC zC next
def apS (N : Nat) (I2 : (List Int) → Int → (List Foe) → Int → (List bi) → (List Txt) → (List dm) → Nat → Txt → Int → Option Txt) (code : List Int) : Option Txt :=
 bif decide ((code.length : Int) > 2000) then bif decide (2000 ≤ (code.length : Int)) then
 ob (F.WI N (List.drop (Int.toNat 0) (List.take (Int.toNat 2000) code), 0)) (dB, [], Int.ofNat 0) fun r =>
 I2 r.2.1 r.2.2 r.1.1 r.1.2.2.2.2 r.1.2.1 r.1.2.2.1 r.1.2.2.2.1 N [] 0 else none else ob (F.WI N (code, 0)) (dB, [], Int.ofNat 0) fun fC =>
 I2 fC.2.1 fC.2.2 fC.1.1 fC.1.2.2.2.2 fC.1.2.1 fC.1.2.2.1 fC.1.2.2.2.1 N [] 0
def aoZ (N : Nat) (code : List Int) : Option Txt := apS N (ZB N) code
def AZ (N : Nat) (r : Txt) (next : Int → Int → Option Bool) : Int → Int → Option Bool := fun k4 i6 => bif decide (i6 < r.length) then
 bif decide (0 ≤ i6) then bif decide (i6 < r.length) then bif ((r.getD i6.toNat 0).toNat : Int) == 10 then bif decide (i64.wrap (k4 - 1) < 0) then
 bif decide (0 ≤ i64.wrap (i6 + 1)) then bif decide (i64.wrap (i6 + 1) ≤ (r.length : Int)) then
 ob (F.aby N (List.drop (Int.toNat 0) (List.take (i64.wrap (i6 + 1)).toNat r))) [] fun aA => ob (F.aby N r) [] fun bA =>
 ob (F.aaG N (List.drop (Int.toNat 0) (List.take (i64.wrap (i6 + 1)).toNat r))) [] fun fA => ob (F.aaG N r) [] fun cA =>
 bif decide ((fA.length : Int) > (cA.length : Int)) then bif bA == cA then some (aA == fA) else some false else
 bif decide ((fA.length : Int) ≤ (cA.length : Int)) then bif !List.drop (Int.toNat 0) (List.take (fA.length : Int).toNat cA) == fA then bif bA == cA then
 some (aA == fA) else some false else bif aA == fA then bif (bA.length : Int) == (cA.length : Int) then bif decide ((aA.length : Int) ≤ (bA.length : Int)) then
 some (List.drop (Int.toNat 0) (List.take (aA.length : Int).toNat bA) == aA) else none else some false else some false else none else none else none else
 next (i64.wrap (k4 - 1)) (i64.wrap (i6 + 1)) else next k4 (i64.wrap (i6 + 1)) else none else none else ob (F.aby N r) [] fun nA =>
 ob (F.aby N r) default fun jA => ob (F.aaG N r) [] fun oA => ob (F.aaG N r) default fun kA => bif decide ((oA.length : Int) > (oA.length : Int)) then
 bif nA == oA then some (nA == oA) else some false else bif decide ((oA.length : Int) ≤ (oA.length : Int)) then
 bif !List.drop (Int.toNat 0) (List.take (oA.length : Int).toNat oA) == oA then bif nA == oA then some (nA == oA) else some false else bif nA == oA then
 bif (nA.length : Int) == (oA.length : Int) then bif decide ((nA.length : Int) ≤ (nA.length : Int)) then
 some (List.drop (Int.toNat 0) (List.take (nA.length : Int).toNat nA) == nA) else none else some false else some false else none
def JI (N : Nat) (r : Txt) : Nat → Int → Int → Option Bool := lp (fun _ _ => none) fun next => AZ N r next
def ani (N : Nat) (I0 : Txt → Nat → Int → Int → Option Bool) (code : List Int) : Option Bool := bif decide ((code.length : Int) > 1048576) then some true
 else ob (F.aoZ N code) [] fun r => I0 r N (i64.wrap (4 + (code.length : Int).tmod 20)) 0
def ajp (N : Nat) (code : List Int) : Option Bool := ani N (JI N) code
end
end Go.MC.F

/- Part 3 of the texts of the claim FnExactClaimOver: an interpreter of the translated code over data, proved sound; the contracts of the functions; the same in plain words. -/
import Derived.Test.YtaihjhaabnfenaaGreatmFnExactClaimOver2
/- What the functions tell of data, in plain Lean: printed by the program tool/gen.py of this repo. -/
set_option linter.unusedVariables false
namespace Go.MC.F
noncomputable section
def laws_szClaimFoe (N : Nat) (a : Foe) (left : Int) : Option Int :=
  bif decide (IntKind.i64.wrap (left - (↑(List.length a.1) : Int)) < 0) then
    (some (-1))
  else
    (bif decide (IntKind.i64.wrap (IntKind.i64.wrap (left - (↑(List.length a.1) : Int)) - (↑(List.length a.2) : Int)) < 0) then
      (some (-1))
    else
      (some (IntKind.i64.wrap (IntKind.i64.wrap (left - (↑(List.length a.1) : Int)) - (↑(List.length a.2) : Int)))))
def laws_szClaimFoeS_0r (N : Nat) (a : List Foe) (next : Int → Int → Option Int) : Int → Int → Option Int := fun left1 i5 =>
    bif decide (i5 < (↑a.length : Int)) then
      (bif decide (0 ≤ i5) then
        (bif decide (i5 < (↑a.length : Int)) then
          (ob (F.laws_szClaimFoe N (a.getD (Int.toNat i5) dFoe) left1) (Int.ofNat 0) fun r =>
          bif decide (r < 0) then
            (some (-1))
          else
            (next r (IntKind.i64.wrap (i5 + 1)))) else none) else none)
    else
      (some left1)
def laws_szClaimFoeS_0 (N : Nat) (a : List Foe) : Nat → Int → Int → Option Int := lp (fun _ _ => none) fun next => laws_szClaimFoeS_0r N a next
def laws_szClaimFoeSb (N : Nat) (I0 : (List Foe) → Nat → Int → Int → Option Int) (a : List Foe) (left : Int) : Option Int :=
  bif decide (IntKind.i64.wrap (left - (↑a.length : Int)) < 0) then
    (some (-1))
  else
    (I0 a N (IntKind.i64.wrap (left - (↑a.length : Int))) 0)
def laws_szClaimFoeS (N : Nat) (a : List Foe) (left : Int) : Option Int := laws_szClaimFoeSb N (laws_szClaimFoeS_0 N) a left
def laws_szStringS_0r (N : Nat) (a : List Txt) (next : Int → Int → Option Int) : Int → Int → Option Int := fun left1 i5 =>
    bif decide (i5 < (↑a.length : Int)) then
      (bif decide (0 ≤ i5) then
        (bif decide (i5 < (↑a.length : Int)) then
          (bif decide (IntKind.i64.wrap (left1 - (↑(List.length (a.getD (Int.toNat i5) [])) : Int)) < 0) then
            (some (-1))
          else
            (next (IntKind.i64.wrap (left1 - (↑(List.length (a.getD (Int.toNat i5) [])) : Int))) (IntKind.i64.wrap (i5 + 1)))) else none) else none)
    else
      (some left1)
def laws_szStringS_0 (N : Nat) (a : List Txt) : Nat → Int → Int → Option Int := lp (fun _ _ => none) fun next => laws_szStringS_0r N a next
def laws_szStringSb (N : Nat) (I0 : (List Txt) → Nat → Int → Int → Option Int) (a : List Txt) (left : Int) : Option Int :=
  bif decide (IntKind.i64.wrap (left - (↑a.length : Int)) < 0) then
    (some (-1))
  else
    (I0 a N (IntKind.i64.wrap (left - (↑a.length : Int))) 0)
def laws_szStringS (N : Nat) (a : List Txt) (left : Int) : Option Int := laws_szStringSb N (laws_szStringS_0 N) a left
def laws_szClaimSpot (N : Nat) (a : Spot) (left : Int) : Option Int :=
  bif decide (IntKind.i64.wrap (left - (↑(List.length a.1) : Int)) < 0) then
    (some (-1))
  else
    (ob (F.laws_szStringS N a.2.2.2.2 (IntKind.i64.wrap (left - (↑(List.length a.1) : Int)))) (Int.ofNat 0) fun r =>
    bif decide (r < 0) then
      (some (-1))
    else
      (some r))
def laws_szClaimSpotS_0r (N : Nat) (a : List Spot) (next : Int → Int → Option Int) : Int → Int → Option Int := fun left1 i5 =>
    bif decide (i5 < (↑a.length : Int)) then
      (bif decide (0 ≤ i5) then
        (bif decide (i5 < (↑a.length : Int)) then
          (ob (F.laws_szClaimSpot N (a.getD (Int.toNat i5) dSpot) left1) (Int.ofNat 0) fun r =>
          bif decide (r < 0) then
            (some (-1))
          else
            (next r (IntKind.i64.wrap (i5 + 1)))) else none) else none)
    else
      (some left1)
def laws_szClaimSpotS_0 (N : Nat) (a : List Spot) : Nat → Int → Int → Option Int := lp (fun _ _ => none) fun next => laws_szClaimSpotS_0r N a next
def laws_szClaimSpotSb (N : Nat) (I0 : (List Spot) → Nat → Int → Int → Option Int) (a : List Spot) (left : Int) : Option Int :=
  bif decide (IntKind.i64.wrap (left - (↑a.length : Int)) < 0) then
    (some (-1))
  else
    (I0 a N (IntKind.i64.wrap (left - (↑a.length : Int))) 0)
def laws_szClaimSpotS (N : Nat) (a : List Spot) (left : Int) : Option Int := laws_szClaimSpotSb N (laws_szClaimSpotS_0 N) a left
def laws_szClaimUse (N : Nat) (a : Use) (left : Int) : Option Int :=
  bif decide (IntKind.i64.wrap (left - (↑(List.length a.1) : Int)) < 0) then
    (some (-1))
  else
    (some (IntKind.i64.wrap (left - (↑(List.length a.1) : Int))))
def laws_szClaimUseS_0r (N : Nat) (a : List Use) (next : Int → Int → Option Int) : Int → Int → Option Int := fun left1 i5 =>
    bif decide (i5 < (↑a.length : Int)) then
      (bif decide (0 ≤ i5) then
        (bif decide (i5 < (↑a.length : Int)) then
          (ob (F.laws_szClaimUse N (a.getD (Int.toNat i5) dUse) left1) (Int.ofNat 0) fun r =>
          bif decide (r < 0) then
            (some (-1))
          else
            (next r (IntKind.i64.wrap (i5 + 1)))) else none) else none)
    else
      (some left1)
def laws_szClaimUseS_0 (N : Nat) (a : List Use) : Nat → Int → Int → Option Int := lp (fun _ _ => none) fun next => laws_szClaimUseS_0r N a next
def laws_szClaimUseSb (N : Nat) (I0 : (List Use) → Nat → Int → Int → Option Int) (a : List Use) (left : Int) : Option Int :=
  bif decide (IntKind.i64.wrap (left - (↑a.length : Int)) < 0) then
    (some (-1))
  else
    (I0 a N (IntKind.i64.wrap (left - (↑a.length : Int))) 0)
def laws_szClaimUseS (N : Nat) (a : List Use) (left : Int) : Option Int := laws_szClaimUseSb N (laws_szClaimUseS_0 N) a left
def laws_szClaimWant (N : Nat) (a : Want) (left : Int) : Option Int :=
  ob (F.laws_szStringS N a.2.2.1 left) (Int.ofNat 0) fun r =>
  bif decide (r < 0) then
    (some (-1))
  else
    (ob (F.laws_szClaimUseS N a.2.2.2.1 r) (Int.ofNat 0) fun r_1 =>
    bif decide (r_1 < 0) then
      (some (-1))
    else
      (ob (F.laws_szStringS N a.2.2.2.2.1 r_1) (Int.ofNat 0) fun r_2 =>
      bif decide (r_2 < 0) then
        (some (-1))
      else
        (ob (F.laws_szStringS N a.2.2.2.2.2 r_2) (Int.ofNat 0) fun r_3 =>
        bif decide (r_3 < 0) then
          (some (-1))
        else
          (some r_3))))
def laws_szClaimPart (N : Nat) (a : Part) (left : Int) : Option Int :=
  ob (F.laws_szClaimWant N a.1 left) (Int.ofNat 0) fun r =>
  bif decide (r < 0) then
    (some (-1))
  else
    (some r)
def laws_szClaimPartS_0r (N : Nat) (a : List Part) (next : Int → Int → Option Int) : Int → Int → Option Int := fun left1 i5 =>
    bif decide (i5 < (↑a.length : Int)) then
      (bif decide (0 ≤ i5) then
        (bif decide (i5 < (↑a.length : Int)) then
          (ob (F.laws_szClaimPart N (a.getD (Int.toNat i5) dPart) left1) (Int.ofNat 0) fun r =>
          bif decide (r < 0) then
            (some (-1))
          else
            (next r (IntKind.i64.wrap (i5 + 1)))) else none) else none)
    else
      (some left1)
def laws_szClaimPartS_0 (N : Nat) (a : List Part) : Nat → Int → Int → Option Int := lp (fun _ _ => none) fun next => laws_szClaimPartS_0r N a next
def laws_szClaimPartSb (N : Nat) (I0 : (List Part) → Nat → Int → Int → Option Int) (a : List Part) (left : Int) : Option Int :=
  bif decide (IntKind.i64.wrap (left - (↑a.length : Int)) < 0) then
    (some (-1))
  else
    (I0 a N (IntKind.i64.wrap (left - (↑a.length : Int))) 0)
def laws_szClaimPartS (N : Nat) (a : List Part) (left : Int) : Option Int := laws_szClaimPartSb N (laws_szClaimPartS_0 N) a left
def laws_szClaimBook (N : Nat) (a : Book) (left : Int) : Option Int :=
  ob (F.laws_szClaimFoeS N a.1 left) (Int.ofNat 0) fun r =>
  bif decide (r < 0) then
    (some (-1))
  else
    (ob (F.laws_szClaimSpotS N a.2.1 r) (Int.ofNat 0) fun r_1 =>
    bif decide (r_1 < 0) then
      (some (-1))
    else
      (ob (F.laws_szStringS N a.2.2.1 r_1) (Int.ofNat 0) fun r_2 =>
      bif decide (r_2 < 0) then
        (some (-1))
      else
        (ob (F.laws_szClaimPartS N a.2.2.2.1 r_2) (Int.ofNat 0) fun r_3 =>
        bif decide (r_3 < 0) then
          (some (-1))
        else
          (some r_3))))
def laws_toClaimFoe (N : Nat) (a : Foe) : Option Foe :=
  some a
def laws_toClaimFoeS_0r (N : Nat) (a : List Foe) (next : Int → (List Foe) → Option (List Foe)) : Int → (List Foe) → Option (List Foe) := fun i4 out3a =>
    bif decide (i4 < (↑a.length : Int)) then
      (bif decide (0 ≤ i4) then
        (bif decide (i4 < (↑a.length : Int)) then
          (ob (F.laws_toClaimFoe N (a.getD (Int.toNat i4) dFoe)) dFoe fun r =>
          bif decide (0 ≤ i4) then
            (bif decide (i4 < (↑out3a.length : Int)) then
              (let out3as : List Foe := out3a.set (Int.toNat i4) r
              next (IntKind.i64.wrap (i4 + 1)) out3as) else none) else none) else none) else none)
    else
      (some out3a)
def laws_toClaimFoeS_0 (N : Nat) (a : List Foe) : Nat → Int → (List Foe) → Option (List Foe) := lp (fun _ _ => none) fun next => laws_toClaimFoeS_0r N a next
def laws_toClaimFoeSb (N : Nat) (I0 : (List Foe) → Nat → Int → (List Foe) → Option (List Foe)) (a : List Foe) : Option (List Foe) :=
  bif decide ((↑a.length : Int) = (↑a.length : Int)) then
    (bif decide ((↑a.length : Int).toNat * 32 ≤ lim) && (Nat.ble 1 32 && true) then
      (I0 a N 0 (List.replicate (↑a.length : Int).toNat dFoe)) else none) else none
def laws_toClaimFoeS (N : Nat) (a : List Foe) : Option (List Foe) := laws_toClaimFoeSb N (laws_toClaimFoeS_0 N) a
def laws_toStringS_0r (N : Nat) (a : List Txt) (next : Int → (List Txt) → Option (List Txt)) : Int → (List Txt) → Option (List Txt) := fun i4 out3a =>
    bif decide (i4 < (↑a.length : Int)) then
      (bif decide (0 ≤ i4) then
        (bif decide (i4 < (↑a.length : Int)) then
          (bif decide (0 ≤ i4) then
            (bif decide (i4 < (↑out3a.length : Int)) then
              (let out3as : List Txt := out3a.set (Int.toNat i4) (a.getD (Int.toNat i4) [])
              next (IntKind.i64.wrap (i4 + 1)) out3as) else none) else none) else none) else none)
    else
      (some out3a)
def laws_toStringS_0 (N : Nat) (a : List Txt) : Nat → Int → (List Txt) → Option (List Txt) := lp (fun _ _ => none) fun next => laws_toStringS_0r N a next
def laws_toStringSb (N : Nat) (I0 : (List Txt) → Nat → Int → (List Txt) → Option (List Txt)) (a : List Txt) : Option (List Txt) :=
  bif decide ((↑a.length : Int) = (↑a.length : Int)) then
    (bif decide ((↑a.length : Int).toNat * 16 ≤ lim) && (Nat.ble 1 16 && true) then
      (I0 a N 0 (List.replicate (↑a.length : Int).toNat [])) else none) else none
def laws_toStringS (N : Nat) (a : List Txt) : Option (List Txt) := laws_toStringSb N (laws_toStringS_0 N) a
def laws_toClaimSpot (N : Nat) (a : Spot) : Option Spot :=
  ob (F.laws_toStringS N a.2.2.2.2) [] fun r =>
  some (a.1, a.2.1, a.2.2.1, a.2.2.2.1, r)
def laws_toClaimSpotS_0r (N : Nat) (a : List Spot) (next : Int → (List Spot) → Option (List Spot)) : Int → (List Spot) → Option (List Spot) := fun i4 out3a =>
    bif decide (i4 < (↑a.length : Int)) then
      (bif decide (0 ≤ i4) then
        (bif decide (i4 < (↑a.length : Int)) then
          (ob (F.laws_toClaimSpot N (a.getD (Int.toNat i4) dSpot)) dSpot fun r =>
          bif decide (0 ≤ i4) then
            (bif decide (i4 < (↑out3a.length : Int)) then
              (let out3as : List Spot := out3a.set (Int.toNat i4) r
              next (IntKind.i64.wrap (i4 + 1)) out3as) else none) else none) else none) else none)
    else
      (some out3a)
def laws_toClaimSpotS_0 (N : Nat) (a : List Spot) : Nat → Int → (List Spot) → Option (List Spot) := lp (fun _ _ => none) fun next => laws_toClaimSpotS_0r N a next
def laws_toClaimSpotSb (N : Nat) (I0 : (List Spot) → Nat → Int → (List Spot) → Option (List Spot)) (a : List Spot) : Option (List Spot) :=
  bif decide ((↑a.length : Int) = (↑a.length : Int)) then
    (bif decide ((↑a.length : Int).toNat * 64 ≤ lim) && (Nat.ble 1 64 && true) then
      (I0 a N 0 (List.replicate (↑a.length : Int).toNat dSpot)) else none) else none
def laws_toClaimSpotS (N : Nat) (a : List Spot) : Option (List Spot) := laws_toClaimSpotSb N (laws_toClaimSpotS_0 N) a
def laws_toClaimUse (N : Nat) (a : Use) : Option Use :=
  some a
def laws_toClaimUseS_0r (N : Nat) (a : List Use) (next : Int → (List Use) → Option (List Use)) : Int → (List Use) → Option (List Use) := fun i4 out3a =>
    bif decide (i4 < (↑a.length : Int)) then
      (bif decide (0 ≤ i4) then
        (bif decide (i4 < (↑a.length : Int)) then
          (ob (F.laws_toClaimUse N (a.getD (Int.toNat i4) dUse)) dUse fun r =>
          bif decide (0 ≤ i4) then
            (bif decide (i4 < (↑out3a.length : Int)) then
              (let out3as : List Use := out3a.set (Int.toNat i4) r
              next (IntKind.i64.wrap (i4 + 1)) out3as) else none) else none) else none) else none)
    else
      (some out3a)
def laws_toClaimUseS_0 (N : Nat) (a : List Use) : Nat → Int → (List Use) → Option (List Use) := lp (fun _ _ => none) fun next => laws_toClaimUseS_0r N a next
def laws_toClaimUseSb (N : Nat) (I0 : (List Use) → Nat → Int → (List Use) → Option (List Use)) (a : List Use) : Option (List Use) :=
  bif decide ((↑a.length : Int) = (↑a.length : Int)) then
    (bif decide ((↑a.length : Int).toNat * 32 ≤ lim) && (Nat.ble 1 32 && true) then
      (I0 a N 0 (List.replicate (↑a.length : Int).toNat dUse)) else none) else none
def laws_toClaimUseS (N : Nat) (a : List Use) : Option (List Use) := laws_toClaimUseSb N (laws_toClaimUseS_0 N) a
def laws_toClaimWant (N : Nat) (a : Want) : Option Want :=
  ob (F.laws_toStringS N a.2.2.1) [] fun r =>
  ob (F.laws_toClaimUseS N a.2.2.2.1) [] fun r_1 =>
  ob (F.laws_toStringS N a.2.2.2.2.1) [] fun r_2 =>
  ob (F.laws_toStringS N a.2.2.2.2.2) [] fun r_3 =>
  some (a.1, a.2.1, r, r_1, r_2, r_3)
def laws_toClaimPart (N : Nat) (a : Part) : Option Part :=
  ob (F.laws_toClaimWant N a.1) dWant fun r =>
  some (r, a.2)
def laws_toClaimPartS_0r (N : Nat) (a : List Part) (next : Int → (List Part) → Option (List Part)) : Int → (List Part) → Option (List Part) := fun i4 out3a =>
    bif decide (i4 < (↑a.length : Int)) then
      (bif decide (0 ≤ i4) then
        (bif decide (i4 < (↑a.length : Int)) then
          (ob (F.laws_toClaimPart N (a.getD (Int.toNat i4) dPart)) dPart fun r =>
          bif decide (0 ≤ i4) then
            (bif decide (i4 < (↑out3a.length : Int)) then
              (let out3as : List Part := out3a.set (Int.toNat i4) r
              next (IntKind.i64.wrap (i4 + 1)) out3as) else none) else none) else none) else none)
    else
      (some out3a)
def laws_toClaimPartS_0 (N : Nat) (a : List Part) : Nat → Int → (List Part) → Option (List Part) := lp (fun _ _ => none) fun next => laws_toClaimPartS_0r N a next
def laws_toClaimPartSb (N : Nat) (I0 : (List Part) → Nat → Int → (List Part) → Option (List Part)) (a : List Part) : Option (List Part) :=
  bif decide ((↑a.length : Int) = (↑a.length : Int)) then
    (bif decide ((↑a.length : Int).toNat * 120 ≤ lim) && (Nat.ble 1 120 && true) then
      (I0 a N 0 (List.replicate (↑a.length : Int).toNat dPart)) else none) else none
def laws_toClaimPartS (N : Nat) (a : List Part) : Option (List Part) := laws_toClaimPartSb N (laws_toClaimPartS_0 N) a
def laws_toClaimBook (N : Nat) (a : Book) : Option Book :=
  ob (F.laws_toClaimFoeS N a.1) [] fun r =>
  ob (F.laws_toClaimSpotS N a.2.1) [] fun r_1 =>
  ob (F.laws_toStringS N a.2.2.1) [] fun r_2 =>
  ob (F.laws_toClaimPartS N a.2.2.2.1) [] fun r_3 =>
  some (r, r_1, r_2, r_3, a.2.2.2.2)
def spec_l1In (N : Nat) (n : Int) (low : Int) (high : Int) : Option Bool :=
  bif decide (n ≥ low) then
    (some (decide (n ≤ high)))
  else
    (some false)
def spec_l1NameOk_0r (N : Nat) (s : Txt) (next : Int → Option Bool) : Int → Option Bool := fun i3 =>
    bif decide (i3 < (↑s.length : Int)) then
      (bif decide (0 ≤ i3) then
        (bif decide (i3 < (↑s.length : Int)) then
          (bif decide ((↑(s.getD (Int.toNat i3) 0).toNat : Int) ≥ 97) then
            (bif decide ((↑(s.getD (Int.toNat i3) 0).toNat : Int) ≤ 122) then
              (next (IntKind.i64.wrap (i3 + 1)))
            else
              (bif decide ((↑(s.getD (Int.toNat i3) 0).toNat : Int) ≥ 48) then
                (bif decide ((↑(s.getD (Int.toNat i3) 0).toNat : Int) ≤ 57) then
                  (next (IntKind.i64.wrap (i3 + 1)))
                else
                  (bif !(↑(s.getD (Int.toNat i3) 0).toNat : Int) == 45 then
                    (some false)
                  else
                    (next (IntKind.i64.wrap (i3 + 1)))))
              else
                (bif !(↑(s.getD (Int.toNat i3) 0).toNat : Int) == 45 then
                  (some false)
                else
                  (next (IntKind.i64.wrap (i3 + 1))))))
          else
            (bif decide ((↑(s.getD (Int.toNat i3) 0).toNat : Int) ≥ 48) then
              (bif decide ((↑(s.getD (Int.toNat i3) 0).toNat : Int) ≤ 57) then
                (next (IntKind.i64.wrap (i3 + 1)))
              else
                (bif !(↑(s.getD (Int.toNat i3) 0).toNat : Int) == 45 then
                  (some false)
                else
                  (next (IntKind.i64.wrap (i3 + 1)))))
            else
              (bif !(↑(s.getD (Int.toNat i3) 0).toNat : Int) == 45 then
                (some false)
              else
                (next (IntKind.i64.wrap (i3 + 1)))))) else none) else none)
    else
      (some true)
def spec_l1NameOk_0 (N : Nat) (s : Txt) : Nat → Int → Option Bool := lp (fun _ => none) fun next => spec_l1NameOk_0r N s next
def spec_l1NameOkb (N : Nat) (I0 : Txt → Nat → Int → Option Bool) (s : Txt) : Option Bool :=
  ob (F.spec_l1In N (↑s.length : Int) 1 8) false fun r =>
  bif !r then
    (some false)
  else
    (I0 s N 0)
def spec_l1NameOk (N : Nat) (s : Txt) : Option Bool := spec_l1NameOkb N (spec_l1NameOk_0 N) s
def spec_l2FoesOk_0r (N : Nat) (b : Book) (next : Int → Option Bool) : Int → Option Bool := fun i3 =>
    bif decide (i3 < (↑(List.length b.1) : Int)) then
      (bif decide (0 ≤ i3) then
        (bif decide (i3 < (↑(List.length b.1) : Int)) then
          (ob (F.spec_l1NameOk N (List.getD b.1 (Int.toNat i3) dFoe).1) false fun r =>
          bif !r then
            (some false)
          else
            (ob (F.spec_l1NameOk N (List.getD b.1 (Int.toNat i3) dFoe).2) false fun r_1 =>
            bif !r_1 then
              (some false)
            else
              (bif !Op.bytesLess (List.getD b.1 (Int.toNat i3) dFoe).1 (List.getD b.1 (Int.toNat i3) dFoe).2 then
                (some false)
              else
                (bif decide (i3 > 0) then
                  (bif decide (0 ≤ IntKind.i64.wrap (i3 - 1)) then
                    (bif decide (IntKind.i64.wrap (i3 - 1) < (↑(List.length b.1) : Int)) then
                      (bif !(Op.bytesLess (List.getD b.1 (IntKind.i64.wrap (i3 - 1)).toNat dFoe).1 (List.getD b.1 (Int.toNat i3) dFoe).1 || (List.getD b.1 (IntKind.i64.wrap (i3 - 1)).toNat dFoe).1 == (List.getD b.1 (Int.toNat i3) dFoe).1) then
                        (some false)
                      else
                        (bif decide (0 ≤ IntKind.i64.wrap (i3 - 1)) then
                          (bif decide (IntKind.i64.wrap (i3 - 1) < (↑(List.length b.1) : Int)) then
                            (bif (List.getD b.1 (IntKind.i64.wrap (i3 - 1)).toNat dFoe).1 == (List.getD b.1 (Int.toNat i3) dFoe).1 then
                              (bif decide (0 ≤ IntKind.i64.wrap (i3 - 1)) then
                                (bif decide (IntKind.i64.wrap (i3 - 1) < (↑(List.length b.1) : Int)) then
                                  (bif !Op.bytesLess (List.getD b.1 (IntKind.i64.wrap (i3 - 1)).toNat dFoe).2 (List.getD b.1 (Int.toNat i3) dFoe).2 then
                                    (some false)
                                  else
                                    (next (IntKind.i64.wrap (i3 + 1)))) else none) else none)
                            else
                              (next (IntKind.i64.wrap (i3 + 1)))) else none) else none)) else none) else none)
                else
                  (next (IntKind.i64.wrap (i3 + 1))))))) else none) else none)
    else
      (some true)
def spec_l2FoesOk_0 (N : Nat) (b : Book) : Nat → Int → Option Bool := lp (fun _ => none) fun next => spec_l2FoesOk_0r N b next
def spec_l2FoesOkb (N : Nat) (I0 : Book → Nat → Int → Option Bool) (b : Book) : Option Bool :=
  bif decide ((↑(List.length b.1) : Int) > 12) then
    (some false)
  else
    (I0 b N 0)
def spec_l2FoesOk (N : Nat) (b : Book) : Option Bool := spec_l2FoesOkb N (spec_l2FoesOk_0 N) b
def spec_l1NamesOk_0r (N : Nat) (list : List Txt) (next : Int → Option Bool) : Int → Option Bool := fun i5 =>
    bif decide (i5 < (↑list.length : Int)) then
      (bif decide (0 ≤ i5) then
        (bif decide (i5 < (↑list.length : Int)) then
          (ob (F.spec_l1NameOk N (list.getD (Int.toNat i5) [])) false fun r =>
          bif !r then
            (some false)
          else
            (bif decide (i5 > 0) then
              (bif decide (0 ≤ IntKind.i64.wrap (i5 - 1)) then
                (bif decide (IntKind.i64.wrap (i5 - 1) < (↑list.length : Int)) then
                  (bif decide (0 ≤ i5) then
                    (bif decide (i5 < (↑list.length : Int)) then
                      (bif !Op.bytesLess (list.getD (IntKind.i64.wrap (i5 - 1)).toNat []) (list.getD (Int.toNat i5) []) then
                        (some false)
                      else
                        (next (IntKind.i64.wrap (i5 + 1)))) else none) else none) else none) else none)
            else
              (next (IntKind.i64.wrap (i5 + 1))))) else none) else none)
    else
      (some true)
def spec_l1NamesOk_0 (N : Nat) (list : List Txt) : Nat → Int → Option Bool := lp (fun _ => none) fun next => spec_l1NamesOk_0r N list next
def spec_l1NamesOkb (N : Nat) (I0 : (List Txt) → Nat → Int → Option Bool) (list : List Txt) (most : Int) : Option Bool :=
  bif decide ((↑list.length : Int) > most) then
    (some false)
  else
    (I0 list N 0)
def spec_l1NamesOk (N : Nat) (list : List Txt) (most : Int) : Option Bool := spec_l1NamesOkb N (spec_l1NamesOk_0 N) list most
def spec_l2Foes_0r (N : Nat) (b : Book) (x : Txt) (y : Txt) (next : Int → Option Bool) : Int → Option Bool := fun i7 =>
    bif decide (i7 < (↑(List.length b.1) : Int)) then
      (bif decide (0 ≤ i7) then
        (bif decide (i7 < (↑(List.length b.1) : Int)) then
          (bif (List.getD b.1 (Int.toNat i7) dFoe).1 == x then
            (bif decide (0 ≤ i7) then
              (bif decide (i7 < (↑(List.length b.1) : Int)) then
                (bif (List.getD b.1 (Int.toNat i7) dFoe).2 == y then
                  (some true)
                else
                  (bif decide (0 ≤ i7) then
                    (bif decide (i7 < (↑(List.length b.1) : Int)) then
                      (bif (List.getD b.1 (Int.toNat i7) dFoe).1 == y then
                        (bif decide (0 ≤ i7) then
                          (bif decide (i7 < (↑(List.length b.1) : Int)) then
                            (bif (List.getD b.1 (Int.toNat i7) dFoe).2 == x then
                              (some true)
                            else
                              (next (IntKind.i64.wrap (i7 + 1)))) else none) else none)
                      else
                        (next (IntKind.i64.wrap (i7 + 1)))) else none) else none)) else none) else none)
          else
            (bif decide (0 ≤ i7) then
              (bif decide (i7 < (↑(List.length b.1) : Int)) then
                (bif (List.getD b.1 (Int.toNat i7) dFoe).1 == y then
                  (bif decide (0 ≤ i7) then
                    (bif decide (i7 < (↑(List.length b.1) : Int)) then
                      (bif (List.getD b.1 (Int.toNat i7) dFoe).2 == x then
                        (some true)
                      else
                        (next (IntKind.i64.wrap (i7 + 1)))) else none) else none)
                else
                  (next (IntKind.i64.wrap (i7 + 1)))) else none) else none)) else none) else none)
    else
      (some false)
def spec_l2Foes_0 (N : Nat) (b : Book) (x : Txt) (y : Txt) : Nat → Int → Option Bool := lp (fun _ => none) fun next => spec_l2Foes_0r N b x y next
def spec_l2Foesb (N : Nat) (I0 : Book → Txt → Txt → Nat → Int → Option Bool) (b : Book) (x : Txt) (y : Txt) : Option Bool :=
  I0 b x y N 0
def spec_l2Foes (N : Nat) (b : Book) (x : Txt) (y : Txt) : Option Bool := spec_l2Foesb N (spec_l2Foes_0 N) b x y
def spec_l2Clash_0r (N : Nat) (b : Book) (stuff : Txt) (may : List Txt) (next : Int → Option Bool) : Int → Option Bool := fun i7 =>
    bif decide (i7 < (↑may.length : Int)) then
      (bif decide (0 ≤ i7) then
        (bif decide (i7 < (↑may.length : Int)) then
          (ob (F.spec_l2Foes N b stuff (may.getD (Int.toNat i7) [])) false fun r =>
          bif r then
            (some true)
          else
            (next (IntKind.i64.wrap (i7 + 1)))) else none) else none)
    else
      (some false)
def spec_l2Clash_0 (N : Nat) (b : Book) (stuff : Txt) (may : List Txt) : Nat → Int → Option Bool := lp (fun _ => none) fun next => spec_l2Clash_0r N b stuff may next
def spec_l2Clashb (N : Nat) (I0 : Book → Txt → (List Txt) → Nat → Int → Option Bool) (b : Book) (stuff : Txt) (may : List Txt) : Option Bool :=
  I0 b stuff may N 0
def spec_l2Clash (N : Nat) (b : Book) (stuff : Txt) (may : List Txt) : Option Bool := spec_l2Clashb N (spec_l2Clash_0 N) b stuff may
def spec_l2SpotOk_0r (N : Nat) (b : Book) (s : Spot) (next : Int → Option Bool) : Int → Option Bool := fun i5 =>
    bif decide (i5 < (↑(List.length s.2.2.2.2) : Int)) then
      (bif decide (0 ≤ i5) then
        (bif decide (i5 < (↑(List.length s.2.2.2.2) : Int)) then
          (ob (F.spec_l2Clash N b (List.getD s.2.2.2.2 (Int.toNat i5) []) s.2.2.2.2) false fun r_4 =>
          bif r_4 then
            (some false)
          else
            (next (IntKind.i64.wrap (i5 + 1)))) else none) else none)
    else
      (some true)
def spec_l2SpotOk_0 (N : Nat) (b : Book) (s : Spot) : Nat → Int → Option Bool := lp (fun _ => none) fun next => spec_l2SpotOk_0r N b s next
def spec_l2SpotOkb (N : Nat) (I0 : Book → Spot → Nat → Int → Option Bool) (b : Book) (s : Spot) : Option Bool :=
  ob (F.spec_l1NameOk N s.1) false fun r =>
  bif !r then
    (some false)
  else
    (ob (F.spec_l1In N s.2.1 0 1000) false fun r_1 =>
    bif !r_1 then
      (some false)
    else
      (ob (F.spec_l1In N s.2.2.1 0 s.2.2.2.1) false fun r_2 =>
      bif !r_2 then
        (some false)
      else
        (bif decide (s.2.2.2.1 > s.2.1) then
          (some false)
        else
          (ob (F.spec_l1NamesOk N s.2.2.2.2 8) false fun r_3 =>
          bif !r_3 then
            (some false)
          else
            (I0 b s N 0)))))
def spec_l2SpotOk (N : Nat) (b : Book) (s : Spot) : Option Bool := spec_l2SpotOkb N (spec_l2SpotOk_0 N) b s
def spec_l1UsesOk_0r (N : Nat) (w : Want) (next : Int → Option Bool) : Int → Option Bool := fun i3 =>
    bif decide (i3 < (↑(List.length w.2.2.2.1) : Int)) then
      (bif decide (0 ≤ i3) then
        (bif decide (i3 < (↑(List.length w.2.2.2.1) : Int)) then
          (ob (F.spec_l1NameOk N (List.getD w.2.2.2.1 (Int.toNat i3) dUse).1) false fun r =>
          bif !r then
            (some false)
          else
            (bif decide (i3 > 0) then
              (bif decide (0 ≤ IntKind.i64.wrap (i3 - 1)) then
                (bif decide (IntKind.i64.wrap (i3 - 1) < (↑(List.length w.2.2.2.1) : Int)) then
                  (bif !Op.bytesLess (List.getD w.2.2.2.1 (IntKind.i64.wrap (i3 - 1)).toNat dUse).1 (List.getD w.2.2.2.1 (Int.toNat i3) dUse).1 then
                    (some false)
                  else
                    (ob (F.spec_l1In N (List.getD w.2.2.2.1 (Int.toNat i3) dUse).2.1 1 3) false fun r_1 =>
                    bif !r_1 then
                      (some false)
                    else
                      (bif (List.getD w.2.2.2.1 (Int.toNat i3) dUse).2.1 == 3 then
                        (bif (List.getD w.2.2.2.1 (Int.toNat i3) dUse).2.2 != 0 then
                          (some false)
                        else
                          (bif (List.getD w.2.2.2.1 (Int.toNat i3) dUse).2.1 != 3 then
                            (bif w.2.1 != 1 then
                              (some false)
                            else
                              (ob (F.spec_l1In N (List.getD w.2.2.2.1 (Int.toNat i3) dUse).2.2 1 1000) false fun r_2 =>
                              bif !r_2 then
                                (some false)
                              else
                                (next (IntKind.i64.wrap (i3 + 1)))))
                          else
                            (next (IntKind.i64.wrap (i3 + 1)))))
                      else
                        (bif (List.getD w.2.2.2.1 (Int.toNat i3) dUse).2.1 != 3 then
                          (bif w.2.1 != 1 then
                            (some false)
                          else
                            (ob (F.spec_l1In N (List.getD w.2.2.2.1 (Int.toNat i3) dUse).2.2 1 1000) false fun r_3 =>
                            bif !r_3 then
                              (some false)
                            else
                              (next (IntKind.i64.wrap (i3 + 1)))))
                        else
                          (next (IntKind.i64.wrap (i3 + 1))))))) else none) else none)
            else
              (ob (F.spec_l1In N (List.getD w.2.2.2.1 (Int.toNat i3) dUse).2.1 1 3) false fun r_4 =>
              bif !r_4 then
                (some false)
              else
                (bif (List.getD w.2.2.2.1 (Int.toNat i3) dUse).2.1 == 3 then
                  (bif (List.getD w.2.2.2.1 (Int.toNat i3) dUse).2.2 != 0 then
                    (some false)
                  else
                    (bif (List.getD w.2.2.2.1 (Int.toNat i3) dUse).2.1 != 3 then
                      (bif w.2.1 != 1 then
                        (some false)
                      else
                        (ob (F.spec_l1In N (List.getD w.2.2.2.1 (Int.toNat i3) dUse).2.2 1 1000) false fun r_5 =>
                        bif !r_5 then
                          (some false)
                        else
                          (next (IntKind.i64.wrap (i3 + 1)))))
                    else
                      (next (IntKind.i64.wrap (i3 + 1)))))
                else
                  (bif (List.getD w.2.2.2.1 (Int.toNat i3) dUse).2.1 != 3 then
                    (bif w.2.1 != 1 then
                      (some false)
                    else
                      (ob (F.spec_l1In N (List.getD w.2.2.2.1 (Int.toNat i3) dUse).2.2 1 1000) false fun r_6 =>
                      bif !r_6 then
                        (some false)
                      else
                        (next (IntKind.i64.wrap (i3 + 1)))))
                  else
                    (next (IntKind.i64.wrap (i3 + 1)))))))) else none) else none)
    else
      (some true)
def spec_l1UsesOk_0 (N : Nat) (w : Want) : Nat → Int → Option Bool := lp (fun _ => none) fun next => spec_l1UsesOk_0r N w next
def spec_l1UsesOkb (N : Nat) (I0 : Want → Nat → Int → Option Bool) (w : Want) : Option Bool :=
  bif decide ((↑(List.length w.2.2.2.1) : Int) > 8) then
    (some false)
  else
    (I0 w N 0)
def spec_l1UsesOk (N : Nat) (w : Want) : Option Bool := spec_l1UsesOkb N (spec_l1UsesOk_0 N) w
def spec_l1Has_0r (N : Nat) (list : List Txt) (name : Txt) (next : Int → Option Bool) : Int → Option Bool := fun i5 =>
    bif decide (i5 < (↑list.length : Int)) then
      (bif decide (0 ≤ i5) then
        (bif decide (i5 < (↑list.length : Int)) then
          (bif list.getD (Int.toNat i5) [] == name then
            (some true)
          else
            (next (IntKind.i64.wrap (i5 + 1)))) else none) else none)
    else
      (some false)
def spec_l1Has_0 (N : Nat) (list : List Txt) (name : Txt) : Nat → Int → Option Bool := lp (fun _ => none) fun next => spec_l1Has_0r N list name next
def spec_l1Hasb (N : Nat) (I0 : (List Txt) → Txt → Nat → Int → Option Bool) (list : List Txt) (name : Txt) : Option Bool :=
  I0 list name N 0
def spec_l1Has (N : Nat) (list : List Txt) (name : Txt) : Option Bool := spec_l1Hasb N (spec_l1Has_0 N) list name
def spec_l1Share_0r (N : Nat) (a : List Txt) (b : List Txt) (next : Int → Option Bool) : Int → Option Bool := fun i5 =>
    bif decide (i5 < (↑a.length : Int)) then
      (bif decide (0 ≤ i5) then
        (bif decide (i5 < (↑a.length : Int)) then
          (ob (F.spec_l1Has N b (a.getD (Int.toNat i5) [])) false fun r =>
          bif r then
            (some true)
          else
            (next (IntKind.i64.wrap (i5 + 1)))) else none) else none)
    else
      (some false)
def spec_l1Share_0 (N : Nat) (a : List Txt) (b : List Txt) : Nat → Int → Option Bool := lp (fun _ => none) fun next => spec_l1Share_0r N a b next
def spec_l1Shareb (N : Nat) (I0 : (List Txt) → (List Txt) → Nat → Int → Option Bool) (a : List Txt) (b : List Txt) : Option Bool :=
  I0 a b N 0
def spec_l1Share (N : Nat) (a : List Txt) (b : List Txt) : Option Bool := spec_l1Shareb N (spec_l1Share_0 N) a b
def spec_ClaimWantOk (N : Nat) (w : Want) : Option Bool :=
  ob (F.spec_l1In N w.1 1 1000000) false fun r =>
  bif !r then
    (some false)
  else
    (ob (F.spec_l1In N w.2.1 1 3) false fun r_1 =>
    bif !r_1 then
      (some false)
    else
      (ob (F.spec_l1UsesOk N w) false fun r_2 =>
      bif !r_2 then
        (some false)
      else
        (ob (F.spec_l1NamesOk N w.2.2.2.2.1 12) false fun r_3 =>
        bif !r_3 then
          (some false)
        else
          (ob (F.spec_l1NamesOk N w.2.2.2.2.2 12) false fun r_4 =>
          bif !r_4 then
            (some false)
          else
            (ob (F.spec_l1Share N w.2.2.2.2.1 w.2.2.2.2.2) false fun r_5 =>
            bif r_5 then
              (some false)
            else
              (bif IntKind.i64.wrap (IntKind.i64.wrap ((↑(List.length w.2.2.2.1) : Int) + (↑(List.length w.2.2.2.2.1) : Int)) + (↑(List.length w.2.2.2.2.2) : Int)) == 0 then
                (some false)
              else
                (bif w.2.1 != 1 then
                  (bif decide ((↑(List.length w.2.2.2.2.1) : Int) > 0) then
                    (some false)
                  else
                    (ob (F.spec_l1NamesOk N w.2.2.1 8) false fun r_6 =>
                    bif r_6 then
                      (some ((w.2.1 == 1) == decide ((↑(List.length w.2.2.1) : Int) > 0)))
                    else
                      (some false)))
                else
                  (ob (F.spec_l1NamesOk N w.2.2.1 8) false fun r_7 =>
                  bif r_7 then
                    (some ((w.2.1 == 1) == decide ((↑(List.length w.2.2.1) : Int) > 0)))
                  else
                    (some false)))))))))
def spec_l2Spot_0r (N : Nat) (b : Book) (name : Txt) (next : Int → Option Int) : Int → Option Int := fun i5 =>
    bif decide (i5 < (↑(List.length b.2.1) : Int)) then
      (bif decide (0 ≤ i5) then
        (bif decide (i5 < (↑(List.length b.2.1) : Int)) then
          (bif (List.getD b.2.1 (Int.toNat i5) dSpot).1 == name then
            (some i5)
          else
            (next (IntKind.i64.wrap (i5 + 1)))) else none) else none)
    else
      (some (-1))
def spec_l2Spot_0 (N : Nat) (b : Book) (name : Txt) : Nat → Int → Option Int := lp (fun _ => none) fun next => spec_l2Spot_0r N b name next
def spec_l2Spotb (N : Nat) (I0 : Book → Txt → Nat → Int → Option Int) (b : Book) (name : Txt) : Option Int :=
  I0 b name N 0
def spec_l2Spot (N : Nat) (b : Book) (name : Txt) : Option Int := spec_l2Spotb N (spec_l2Spot_0 N) b name
def spec_l2Knows_4r (N : Nat) (b : Book) (w : Want) (next : Int → Option Bool) : Int → Option Bool := fun i7 =>
    bif decide (i7 < (↑(List.length w.2.2.2.2.2) : Int)) then
      (bif decide (0 ≤ i7) then
        (bif decide (i7 < (↑(List.length w.2.2.2.2.2) : Int)) then
          (ob (F.spec_l1Has N b.2.2.1 (List.getD w.2.2.2.2.2 (Int.toNat i7) [])) false fun r_2 =>
          bif !r_2 then
            (some false)
          else
            (next (IntKind.i64.wrap (i7 + 1)))) else none) else none)
    else
      (some true)
def spec_l2Knows_4 (N : Nat) (b : Book) (w : Want) : Nat → Int → Option Bool := lp (fun _ => none) fun next => spec_l2Knows_4r N b w next
def spec_l2Knows_2r (N : Nat) (I0 : Book → Want → Nat → Int → Option Bool) (b : Book) (w : Want) (next : Int → Option Bool) : Int → Option Bool := fun i6 =>
    bif decide (i6 < (↑(List.length w.2.2.2.2.1) : Int)) then
      (bif decide (0 ≤ i6) then
        (bif decide (i6 < (↑(List.length w.2.2.2.2.1) : Int)) then
          (ob (F.spec_l1Has N b.2.2.1 (List.getD w.2.2.2.2.1 (Int.toNat i6) [])) false fun r_1 =>
          bif !r_1 then
            (some false)
          else
            (next (IntKind.i64.wrap (i6 + 1)))) else none) else none)
    else
      (I0 b w N 0)
def spec_l2Knows_2 (N : Nat) (b : Book) (w : Want) : Nat → Int → Option Bool := lp (fun _ => none) fun next => spec_l2Knows_2r N (spec_l2Knows_4 N) b w next
def spec_l2Knows_0r (N : Nat) (I1 : Book → Want → Nat → Int → Option Bool) (b : Book) (w : Want) (next : Int → Option Bool) : Int → Option Bool := fun i5 =>
    bif decide (i5 < (↑(List.length w.2.2.2.1) : Int)) then
      (bif decide (0 ≤ i5) then
        (bif decide (i5 < (↑(List.length w.2.2.2.1) : Int)) then
          (ob (F.spec_l2Spot N b (List.getD w.2.2.2.1 (Int.toNat i5) dUse).1) (Int.ofNat 0) fun r =>
          bif decide (r < 0) then
            (some false)
          else
            (next (IntKind.i64.wrap (i5 + 1)))) else none) else none)
    else
      (I1 b w N 0)
def spec_l2Knows_0 (N : Nat) (b : Book) (w : Want) : Nat → Int → Option Bool := lp (fun _ => none) fun next => spec_l2Knows_0r N (spec_l2Knows_2 N) b w next
def spec_l2Knowsb (N : Nat) (I2 : Book → Want → Nat → Int → Option Bool) (b : Book) (w : Want) : Option Bool :=
  I2 b w N 0
def spec_l2Knows (N : Nat) (b : Book) (w : Want) : Option Bool := spec_l2Knowsb N (spec_l2Knows_0 N) b w
def spec_l1All_0r (N : Nat) (a : List Txt) (b : List Txt) (next : Int → Option Bool) : Int → Option Bool := fun i5 =>
    bif decide (i5 < (↑a.length : Int)) then
      (bif decide (0 ≤ i5) then
        (bif decide (i5 < (↑a.length : Int)) then
          (ob (F.spec_l1Has N b (a.getD (Int.toNat i5) [])) false fun r =>
          bif !r then
            (some false)
          else
            (next (IntKind.i64.wrap (i5 + 1)))) else none) else none)
    else
      (some true)
def spec_l1All_0 (N : Nat) (a : List Txt) (b : List Txt) : Nat → Int → Option Bool := lp (fun _ => none) fun next => spec_l1All_0r N a b next
def spec_l1Allb (N : Nat) (I0 : (List Txt) → (List Txt) → Nat → Int → Option Bool) (a : List Txt) (b : List Txt) : Option Bool :=
  I0 a b N 0
def spec_l1All (N : Nat) (a : List Txt) (b : List Txt) : Option Bool := spec_l1Allb N (spec_l1All_0 N) a b
def spec_l2UseOk (N : Nat) (s : Spot) (w : Want) (u : Use) : Option Bool :=
  bif w.2.1 == 2 then
    (bif decide (s.2.2.2.1 > 0) then
      (some false)
    else
      (bif w.2.1 == 1 then
        (bif u.2.1 != 2 then
          (ob (F.spec_l1All N s.2.2.2.2 w.2.2.1) false fun r =>
          bif !r then
            (some false)
          else
            (bif w.2.1 == 1 then
              (bif u.2.1 != 1 then
                (ob (F.spec_l1All N w.2.2.1 s.2.2.2.2) false fun r_1 =>
                bif !r_1 then
                  (some false)
                else
                  (some (decide (IntKind.i64.wrap (s.2.2.1 + u.2.2) ≤ s.2.2.2.1))))
              else
                (some (decide (IntKind.i64.wrap (s.2.2.1 + u.2.2) ≤ s.2.2.2.1))))
            else
              (some (decide (IntKind.i64.wrap (s.2.2.1 + u.2.2) ≤ s.2.2.2.1)))))
        else
          (bif w.2.1 == 1 then
            (bif u.2.1 != 1 then
              (ob (F.spec_l1All N w.2.2.1 s.2.2.2.2) false fun r_2 =>
              bif !r_2 then
                (some false)
              else
                (some (decide (IntKind.i64.wrap (s.2.2.1 + u.2.2) ≤ s.2.2.2.1))))
            else
              (some (decide (IntKind.i64.wrap (s.2.2.1 + u.2.2) ≤ s.2.2.2.1))))
          else
            (some (decide (IntKind.i64.wrap (s.2.2.1 + u.2.2) ≤ s.2.2.2.1)))))
      else
        (bif w.2.1 == 1 then
          (bif u.2.1 != 1 then
            (ob (F.spec_l1All N w.2.2.1 s.2.2.2.2) false fun r_3 =>
            bif !r_3 then
              (some false)
            else
              (some (decide (IntKind.i64.wrap (s.2.2.1 + u.2.2) ≤ s.2.2.2.1))))
          else
            (some (decide (IntKind.i64.wrap (s.2.2.1 + u.2.2) ≤ s.2.2.2.1))))
        else
          (some (decide (IntKind.i64.wrap (s.2.2.1 + u.2.2) ≤ s.2.2.2.1))))))
  else
    (bif w.2.1 == 1 then
      (bif u.2.1 != 2 then
        (ob (F.spec_l1All N s.2.2.2.2 w.2.2.1) false fun r_4 =>
        bif !r_4 then
          (some false)
        else
          (bif w.2.1 == 1 then
            (bif u.2.1 != 1 then
              (ob (F.spec_l1All N w.2.2.1 s.2.2.2.2) false fun r_5 =>
              bif !r_5 then
                (some false)
              else
                (some (decide (IntKind.i64.wrap (s.2.2.1 + u.2.2) ≤ s.2.2.2.1))))
            else
              (some (decide (IntKind.i64.wrap (s.2.2.1 + u.2.2) ≤ s.2.2.2.1))))
          else
            (some (decide (IntKind.i64.wrap (s.2.2.1 + u.2.2) ≤ s.2.2.2.1)))))
      else
        (bif w.2.1 == 1 then
          (bif u.2.1 != 1 then
            (ob (F.spec_l1All N w.2.2.1 s.2.2.2.2) false fun r_6 =>
            bif !r_6 then
              (some false)
            else
              (some (decide (IntKind.i64.wrap (s.2.2.1 + u.2.2) ≤ s.2.2.2.1))))
          else
            (some (decide (IntKind.i64.wrap (s.2.2.1 + u.2.2) ≤ s.2.2.2.1))))
        else
          (some (decide (IntKind.i64.wrap (s.2.2.1 + u.2.2) ≤ s.2.2.2.1)))))
    else
      (bif w.2.1 == 1 then
        (bif u.2.1 != 1 then
          (ob (F.spec_l1All N w.2.2.1 s.2.2.2.2) false fun r_7 =>
          bif !r_7 then
            (some false)
          else
            (some (decide (IntKind.i64.wrap (s.2.2.1 + u.2.2) ≤ s.2.2.2.1))))
        else
          (some (decide (IntKind.i64.wrap (s.2.2.1 + u.2.2) ≤ s.2.2.2.1))))
      else
        (some (decide (IntKind.i64.wrap (s.2.2.1 + u.2.2) ≤ s.2.2.2.1)))))
def spec_l2PartOk_0r (N : Nat) (b : Book) (p : Part) (next : Int → Option Bool) : Int → Option Bool := fun i5 =>
    bif decide (i5 < (↑(List.length p.1.2.2.2.1) : Int)) then
      (bif decide (0 ≤ i5) then
        (bif decide (i5 < (↑(List.length p.1.2.2.2.1) : Int)) then
          (ob (F.spec_l2Spot N b (List.getD p.1.2.2.2.1 (Int.toNat i5) dUse).1) (Int.ofNat 0) fun r_2 =>
          bif decide (0 ≤ r_2) then
            (bif decide (r_2 < (↑(List.length b.2.1) : Int)) then
              (bif decide (0 ≤ i5) then
                (bif decide (i5 < (↑(List.length p.1.2.2.2.1) : Int)) then
                  (ob (F.spec_l2UseOk N (List.getD b.2.1 (Int.toNat r_2) dSpot) p.1 (List.getD p.1.2.2.2.1 (Int.toNat i5) dUse)) false fun r_3 =>
                  bif !r_3 then
                    (some false)
                  else
                    (next (IntKind.i64.wrap (i5 + 1)))) else none) else none) else none) else none) else none) else none)
    else
      (some true)
def spec_l2PartOk_0 (N : Nat) (b : Book) (p : Part) : Nat → Int → Option Bool := lp (fun _ => none) fun next => spec_l2PartOk_0r N b p next
def spec_l2PartOkb (N : Nat) (I0 : Book → Part → Nat → Int → Option Bool) (b : Book) (p : Part) : Option Bool :=
  ob (F.spec_ClaimWantOk N p.1) false fun r =>
  bif !r then
    (some false)
  else
    (bif decide (p.1.1 > b.2.2.2.2) then
      (some false)
    else
      (ob (F.spec_l2Knows N b p.1) false fun r_1 =>
      bif !r_1 then
        (some false)
      else
        (I0 b p N 0)))
def spec_l2PartOk (N : Nat) (b : Book) (p : Part) : Option Bool := spec_l2PartOkb N (spec_l2PartOk_0 N) b p
def spec_l2Uses_0r (N : Nat) (w : Want) (next : Int → (List Txt) → Option (List Txt)) : Int → (List Txt) → Option (List Txt) := fun i4 out3a =>
    bif decide (i4 < (↑(List.length w.2.2.2.1) : Int)) then
      (bif decide (0 ≤ i4) then
        (bif decide (i4 < (↑(List.length w.2.2.2.1) : Int)) then
          (bif decide ((out3a.length + [(List.getD w.2.2.2.1 (Int.toNat i4) dUse).1].length) * 16 ≤ lim) then
            (next (IntKind.i64.wrap (i4 + 1)) (out3a ++ [(List.getD w.2.2.2.1 (Int.toNat i4) dUse).1])) else none) else none) else none)
    else
      (some out3a)
def spec_l2Uses_0 (N : Nat) (w : Want) : Nat → Int → (List Txt) → Option (List Txt) := lp (fun _ _ => none) fun next => spec_l2Uses_0r N w next
def spec_l2Usesb (N : Nat) (I0 : Want → Nat → Int → (List Txt) → Option (List Txt)) (w : Want) : Option (List Txt) :=
  I0 w N 0 []
def spec_l2Uses (N : Nat) (w : Want) : Option (List Txt) := spec_l2Usesb N (spec_l2Uses_0 N) w
def spec_l2Crosses (N : Nat) (a : Want) (b : Want) : Option Bool :=
  ob (F.spec_l1Share N a.2.2.2.2.1 b.2.2.2.2.1) false fun r =>
  bif r then
    (some true)
  else
    (ob (F.spec_l1Share N a.2.2.2.2.1 b.2.2.2.2.2) false fun r_1 =>
    bif r_1 then
      (some true)
    else
      (ob (F.spec_l1Share N a.2.2.2.2.2 b.2.2.2.2.1) false fun r_2 =>
      some r_2))
def spec_l2PartsOk_2r (N : Nat) (nx0 : Int → Option Bool) (b : Book) (i3 : Int) (w4c0 : Int) (w4c1 : Int) (w4c2 : List Txt) (w4c3 : List Use) (w4c4 : List Txt) (w4c5 : List Txt) (next : Int → Option Bool) : Int → Option Bool := fun k5 =>
    bif decide (k5 < i3) then
      (bif decide (0 ≤ k5) then
        (bif decide (k5 < (↑(List.length b.2.2.2.1) : Int)) then
          (ob (F.spec_l2Uses N (w4c0, w4c1, w4c2, w4c3, w4c4, w4c5)) [] fun r_1 =>
          ob (F.spec_l2Uses N (List.getD b.2.2.2.1 (Int.toNat k5) dPart).1) [] fun r_2 =>
          ob (F.spec_l1Share N r_1 r_2) false fun r_3 =>
          bif r_3 then
            (some false)
          else
            (ob (F.spec_l2Crosses N (w4c0, w4c1, w4c2, w4c3, w4c4, w4c5) (List.getD b.2.2.2.1 (Int.toNat k5) dPart).1) false fun r_4 =>
            bif r_4 then
              (some false)
            else
              (next (IntKind.i64.wrap (k5 + 1))))) else none) else none)
    else
      (nx0 (IntKind.i64.wrap (i3 + 1)))
def spec_l2PartsOk_2 (N : Nat) (nx0 : Int → Option Bool) (b : Book) (i3 : Int) (w4c0 : Int) (w4c1 : Int) (w4c2 : List Txt) (w4c3 : List Use) (w4c4 : List Txt) (w4c5 : List Txt) : Nat → Int → Option Bool := lp (fun _ => none) fun next => spec_l2PartsOk_2r N nx0 b i3 w4c0 w4c1 w4c2 w4c3 w4c4 w4c5 next
def spec_l2PartsOk_0r (N : Nat) (I0 : Int → Int → Int → (List Txt) → (List Use) → (List Txt) → (List Txt) → Nat → Int → Option Bool) (b : Book) (next : Int → Option Bool) : Int → Option Bool := fun i3 =>
    bif decide (i3 < (↑(List.length b.2.2.2.1) : Int)) then
      (bif decide (0 ≤ i3) then
        (bif decide (i3 < (↑(List.length b.2.2.2.1) : Int)) then
          (bif decide (0 ≤ i3) then
            (bif decide (i3 < (↑(List.length b.2.2.2.1) : Int)) then
              (ob (F.spec_l2PartOk N b (List.getD b.2.2.2.1 (Int.toNat i3) dPart)) false fun r =>
              bif !r then
                (some false)
              else
                (bif decide (i3 > 0) then
                  (bif decide (0 ≤ IntKind.i64.wrap (i3 - 1)) then
                    (bif decide (IntKind.i64.wrap (i3 - 1) < (↑(List.length b.2.2.2.1) : Int)) then
                      (bif decide ((List.getD b.2.2.2.1 (IntKind.i64.wrap (i3 - 1)).toNat dPart).1.1 ≥ (List.getD b.2.2.2.1 (Int.toNat i3) dPart).1.1) then
                        (some false)
                      else
                        (I0 i3 ((List.getD b.2.2.2.1 (Int.toNat i3) dPart).1.1) ((List.getD b.2.2.2.1 (Int.toNat i3) dPart).1.2.1) ((List.getD b.2.2.2.1 (Int.toNat i3) dPart).1.2.2.1) ((List.getD b.2.2.2.1 (Int.toNat i3) dPart).1.2.2.2.1) ((List.getD b.2.2.2.1 (Int.toNat i3) dPart).1.2.2.2.2.1) ((List.getD b.2.2.2.1 (Int.toNat i3) dPart).1.2.2.2.2.2) N 0)) else none) else none)
                else
                  (I0 i3 ((List.getD b.2.2.2.1 (Int.toNat i3) dPart).1.1) ((List.getD b.2.2.2.1 (Int.toNat i3) dPart).1.2.1) ((List.getD b.2.2.2.1 (Int.toNat i3) dPart).1.2.2.1) ((List.getD b.2.2.2.1 (Int.toNat i3) dPart).1.2.2.2.1) ((List.getD b.2.2.2.1 (Int.toNat i3) dPart).1.2.2.2.2.1) ((List.getD b.2.2.2.1 (Int.toNat i3) dPart).1.2.2.2.2.2) N 0))) else none) else none) else none) else none)
    else
      (some true)
def spec_l2PartsOk_0 (N : Nat) (b : Book) : Nat → Int → Option Bool := lp (fun _ => none) fun next => spec_l2PartsOk_0r N (spec_l2PartsOk_2 N next b) b next
def spec_l2PartsOkb (N : Nat) (I1 : Book → Nat → Int → Option Bool) (b : Book) : Option Bool :=
  bif decide ((↑(List.length b.2.2.2.1) : Int) > 6) then
    (some false)
  else
    (I1 b N 0)
def spec_l2PartsOk (N : Nat) (b : Book) : Option Bool := spec_l2PartsOkb N (spec_l2PartsOk_0 N) b
def spec_ClaimBookOk_0r (N : Nat) (b : Book) (next : Int → Option Bool) : Int → Option Bool := fun i3 =>
    bif decide (i3 < (↑(List.length b.2.1) : Int)) then
      (bif decide (0 ≤ i3) then
        (bif decide (i3 < (↑(List.length b.2.1) : Int)) then
          (ob (F.spec_l2SpotOk N b (List.getD b.2.1 (Int.toNat i3) dSpot)) false fun r_3 =>
          bif !r_3 then
            (some false)
          else
            (bif decide (i3 > 0) then
              (bif decide (0 ≤ IntKind.i64.wrap (i3 - 1)) then
                (bif decide (IntKind.i64.wrap (i3 - 1) < (↑(List.length b.2.1) : Int)) then
                  (bif decide (0 ≤ i3) then
                    (bif decide (i3 < (↑(List.length b.2.1) : Int)) then
                      (bif !Op.bytesLess (List.getD b.2.1 (IntKind.i64.wrap (i3 - 1)).toNat dSpot).1 (List.getD b.2.1 (Int.toNat i3) dSpot).1 then
                        (some false)
                      else
                        (next (IntKind.i64.wrap (i3 + 1)))) else none) else none) else none) else none)
            else
              (next (IntKind.i64.wrap (i3 + 1))))) else none) else none)
    else
      (ob (F.spec_l2PartsOk N b) false fun r_4 =>
      some r_4)
def spec_ClaimBookOk_0 (N : Nat) (b : Book) : Nat → Int → Option Bool := lp (fun _ => none) fun next => spec_ClaimBookOk_0r N b next
def spec_ClaimBookOkb (N : Nat) (I0 : Book → Nat → Int → Option Bool) (b : Book) : Option Bool :=
  ob (F.spec_l2FoesOk N b) false fun r =>
  bif !r then
    (some false)
  else
    (bif decide ((↑(List.length b.2.1) : Int) > 8) then
      (some false)
    else
      (ob (F.spec_l1NamesOk N b.2.2.1 12) false fun r_1 =>
      bif !r_1 then
        (some false)
      else
        (ob (F.spec_l1In N b.2.2.2.2 0 1000000) false fun r_2 =>
        bif !r_2 then
          (some false)
        else
          (I0 b N 0))))
def spec_ClaimBookOk (N : Nat) (b : Book) : Option Bool := spec_ClaimBookOkb N (spec_ClaimBookOk_0 N) b
def spec_l1Names (N : Nat) (list : List Txt) : Option (List Txt) :=
  bif decide ((0 + list.length) * 16 ≤ lim) then
    (some ([] ++ list)) else none
def spec_l1Want (N : Nat) (w : Want) : Option Want :=
  bif decide ((0 + List.length w.2.2.2.1) * 32 ≤ lim) then
    (ob (F.spec_l1Names N w.2.2.1) [] fun r =>
    ob (F.spec_l1Names N w.2.2.2.2.1) [] fun r_1 =>
    ob (F.spec_l1Names N w.2.2.2.2.2) [] fun r_2 =>
    some (w.1, w.2.1, r, [] ++ w.2.2.2.1, r_1, r_2)) else none
def spec_l2Copy_2r (N : Nat) (b : Book) (r : List Txt) (t2c4 : Int) (x3c0a : List Foe) (x3c1a : List Spot) (next : Int → (List Part) → Option Book) : Int → (List Part) → Option Book := fun i6 x3c3a =>
    bif decide (i6 < (↑(List.length b.2.2.2.1) : Int)) then
      (bif decide (0 ≤ i6) then
        (bif decide (i6 < (↑(List.length b.2.2.2.1) : Int)) then
          (ob (F.spec_l1Want N (List.getD b.2.2.2.1 (Int.toNat i6) dPart).1) dWant fun r_2 =>
          bif decide (0 ≤ i6) then
            (bif decide (i6 < (↑(List.length b.2.2.2.1) : Int)) then
              (bif decide ((x3c3a.length + [(r_2, (List.getD b.2.2.2.1 (Int.toNat i6) dPart).2)].length) * 120 ≤ lim) then
                (next (IntKind.i64.wrap (i6 + 1)) (x3c3a ++ [(r_2, (List.getD b.2.2.2.1 (Int.toNat i6) dPart).2)])) else none) else none) else none) else none) else none)
    else
      (some (x3c0a, x3c1a, r, x3c3a, b.2.2.2.2))
def spec_l2Copy_2 (N : Nat) (b : Book) (r : List Txt) (t2c4 : Int) (x3c0a : List Foe) (x3c1a : List Spot) : Nat → Int → (List Part) → Option Book := lp (fun _ _ => none) fun next => spec_l2Copy_2r N b r t2c4 x3c0a x3c1a next
def spec_l2Copy_0r (N : Nat) (I0 : Book → (List Txt) → Int → (List Foe) → (List Spot) → Nat → Int → (List Part) → Option Book) (b : Book) (r : List Txt) (t2c4 : Int) (x3c0a : List Foe) (next : Int → (List Spot) → Option Book) : Int → (List Spot) → Option Book := fun i4 x3c1a =>
    bif decide (i4 < (↑(List.length b.2.1) : Int)) then
      (bif decide (0 ≤ i4) then
        (bif decide (i4 < (↑(List.length b.2.1) : Int)) then
          (ob (F.spec_l1Names N (List.getD b.2.1 (Int.toNat i4) dSpot).2.2.2.2) [] fun r_1 =>
          bif decide ((x3c1a.length + [((List.getD b.2.1 (Int.toNat i4) dSpot).1, (List.getD b.2.1 (Int.toNat i4) dSpot).2.1, (List.getD b.2.1 (Int.toNat i4) dSpot).2.2.1, (List.getD b.2.1 (Int.toNat i4) dSpot).2.2.2.1, r_1)].length) * 64 ≤ lim) then
            (next (IntKind.i64.wrap (i4 + 1)) (x3c1a ++ [((List.getD b.2.1 (Int.toNat i4) dSpot).1, (List.getD b.2.1 (Int.toNat i4) dSpot).2.1, (List.getD b.2.1 (Int.toNat i4) dSpot).2.2.1, (List.getD b.2.1 (Int.toNat i4) dSpot).2.2.2.1, r_1)])) else none) else none) else none)
    else
      (I0 b r t2c4 x3c0a x3c1a N 0 [])
def spec_l2Copy_0 (N : Nat) (b : Book) (r : List Txt) (t2c4 : Int) (x3c0a : List Foe) : Nat → Int → (List Spot) → Option Book := lp (fun _ _ => none) fun next => spec_l2Copy_0r N (spec_l2Copy_2 N) b r t2c4 x3c0a next
def spec_l2Copyb (N : Nat) (I1 : Book → (List Txt) → Int → (List Foe) → Nat → Int → (List Spot) → Option Book) (b : Book) : Option Book :=
  bif decide ((0 + List.length b.1) * 32 ≤ lim) then
    (ob (F.spec_l1Names N b.2.2.1) [] fun r =>
    I1 b r 0 ([] ++ b.1) N 0 []) else none
def spec_l2Copy (N : Nat) (b : Book) : Option Book := spec_l2Copyb N (spec_l2Copy_0 N) b
def spec_l2Part_0r (N : Nat) (b : Book) (number : Int) (next : Int → Option Int) : Int → Option Int := fun i5 =>
    bif decide (i5 < (↑(List.length b.2.2.2.1) : Int)) then
      (bif decide (0 ≤ i5) then
        (bif decide (i5 < (↑(List.length b.2.2.2.1) : Int)) then
          (bif (List.getD b.2.2.2.1 (Int.toNat i5) dPart).1.1 == number then
            (some i5)
          else
            (next (IntKind.i64.wrap (i5 + 1)))) else none) else none)
    else
      (some (-1))
def spec_l2Part_0 (N : Nat) (b : Book) (number : Int) : Nat → Int → Option Int := lp (fun _ => none) fun next => spec_l2Part_0r N b number next
def spec_l2Partb (N : Nat) (I0 : Book → Int → Nat → Int → Option Int) (b : Book) (number : Int) : Option Int :=
  I0 b number N 0
def spec_l2Part (N : Nat) (b : Book) (number : Int) : Option Int := spec_l2Partb N (spec_l2Part_0 N) b number
def spec_l4Moved_0r (N : Nat) (w : Want) (moved : Int) (next : Int → Option Bool) : Int → Option Bool := fun i5 =>
    bif decide (i5 < (↑(List.length w.2.2.2.1) : Int)) then
      (bif decide (0 ≤ i5) then
        (bif decide (i5 < (↑(List.length w.2.2.2.1) : Int)) then
          (bif (List.getD w.2.2.2.1 (Int.toNat i5) dUse).2.1 != 3 then
            (bif decide (0 ≤ i5) then
              (bif decide (i5 < (↑(List.length w.2.2.2.1) : Int)) then
                (bif decide (moved > (List.getD w.2.2.2.1 (Int.toNat i5) dUse).2.2) then
                  (some false)
                else
                  (next (IntKind.i64.wrap (i5 + 1)))) else none) else none)
          else
            (next (IntKind.i64.wrap (i5 + 1)))) else none) else none)
    else
      (some true)
def spec_l4Moved_0 (N : Nat) (w : Want) (moved : Int) : Nat → Int → Option Bool := lp (fun _ => none) fun next => spec_l4Moved_0r N w moved next
def spec_l4Movedb (N : Nat) (I0 : Want → Int → Nat → Int → Option Bool) (w : Want) (moved : Int) : Option Bool :=
  bif decide (moved < 0) then
    (some false)
  else
    (I0 w moved N 0)
def spec_l4Moved (N : Nat) (w : Want) (moved : Int) : Option Bool := spec_l4Movedb N (spec_l4Moved_0 N) w moved
def spec_l4Settle (N : Nat) (s : Spot) (w : Want) (u : Use) (moved : Int) (done : Bool) : Option Spot :=
  bif u.2.1 == 1 then
    (bif u.2.1 == 2 then
      (bif w.2.1 == 2 then
        (bif done then
          (some (s.1, s.2.1, IntKind.i64.wrap (IntKind.i64.wrap (IntKind.i64.wrap (s.2.2.1 + u.2.2) - moved) + moved), IntKind.i64.wrap (IntKind.i64.wrap (IntKind.i64.wrap (s.2.2.2.1 - moved) - u.2.2) + moved), []))
        else
          (some (s.1, s.2.1, IntKind.i64.wrap (IntKind.i64.wrap (IntKind.i64.wrap (s.2.2.1 + u.2.2) - moved) + moved), IntKind.i64.wrap (IntKind.i64.wrap (IntKind.i64.wrap (s.2.2.2.1 - moved) - u.2.2) + moved), s.2.2.2.2)))
      else
        (some (s.1, s.2.1, IntKind.i64.wrap (IntKind.i64.wrap (IntKind.i64.wrap (s.2.2.1 + u.2.2) - moved) + moved), IntKind.i64.wrap (IntKind.i64.wrap (IntKind.i64.wrap (s.2.2.2.1 - moved) - u.2.2) + moved), s.2.2.2.2)))
    else
      (bif w.2.1 == 2 then
        (bif done then
          (some (s.1, s.2.1, IntKind.i64.wrap (IntKind.i64.wrap (s.2.2.1 + u.2.2) - moved), IntKind.i64.wrap (s.2.2.2.1 - moved), []))
        else
          (some (s.1, s.2.1, IntKind.i64.wrap (IntKind.i64.wrap (s.2.2.1 + u.2.2) - moved), IntKind.i64.wrap (s.2.2.2.1 - moved), s.2.2.2.2)))
      else
        (some (s.1, s.2.1, IntKind.i64.wrap (IntKind.i64.wrap (s.2.2.1 + u.2.2) - moved), IntKind.i64.wrap (s.2.2.2.1 - moved), s.2.2.2.2))))
  else
    (bif u.2.1 == 2 then
      (bif w.2.1 == 2 then
        (bif done then
          (some (s.1, s.2.1, IntKind.i64.wrap (s.2.2.1 + moved), IntKind.i64.wrap (IntKind.i64.wrap (s.2.2.2.1 - u.2.2) + moved), []))
        else
          (some (s.1, s.2.1, IntKind.i64.wrap (s.2.2.1 + moved), IntKind.i64.wrap (IntKind.i64.wrap (s.2.2.2.1 - u.2.2) + moved), s.2.2.2.2)))
      else
        (some (s.1, s.2.1, IntKind.i64.wrap (s.2.2.1 + moved), IntKind.i64.wrap (IntKind.i64.wrap (s.2.2.2.1 - u.2.2) + moved), s.2.2.2.2)))
    else
      (bif w.2.1 == 2 then
        (bif done then
          (some (s.1, s.2.1, s.2.2.1, s.2.2.2.1, []))
        else
          (some s))
      else
        (some s)))
def spec_ClaimOver_0r (N : Nat) (b : Book) (moved : Int) (done : Bool) (r_1 : Book) (r_2 : Int) (t8c4 : Int) (w12c0 : Int) (w12c1 : Int) (w12c2 : List Txt) (w12c3 : List Use) (w12c4 : List Txt) (w12c5 : List Txt) (next : Int → (List Spot) → Option (Book × Int)) : Int → (List Spot) → Option (Book × Int) := fun i13 x10c1a =>
    bif decide (i13 < (↑(List.length w12c3) : Int)) then
      (bif decide (0 ≤ i13) then
        (bif decide (i13 < (↑(List.length w12c3) : Int)) then
          (ob (F.spec_l2Spot N b (List.getD w12c3 (Int.toNat i13) dUse).1) (Int.ofNat 0) fun r_7 =>
          bif decide (0 ≤ r_7) then
            (bif decide (r_7 < (↑x10c1a.length : Int)) then
              (bif decide (0 ≤ i13) then
                (bif decide (i13 < (↑(List.length w12c3) : Int)) then
                  (ob (F.spec_l4Settle N (x10c1a.getD (Int.toNat r_7) dSpot) (w12c0, w12c1, w12c2, w12c3, w12c4, w12c5) (List.getD w12c3 (Int.toNat i13) dUse) moved done) dSpot fun r_8 =>
                  bif decide (0 ≤ r_7) then
                    (bif decide (r_7 < (↑x10c1a.length : Int)) then
                      (let x10c1as_1 : List Spot := x10c1a.set (Int.toNat r_7) r_8
                      next (IntKind.i64.wrap (i13 + 1)) x10c1as_1) else none) else none) else none) else none) else none) else none) else none) else none)
    else
      (bif decide (0 ≤ r_2) then
        (bif decide (r_2 ≤ (↑(List.length r_1.2.2.2.1) : Int)) then
          (bif decide ((0 + (List.drop (Int.toNat 0) (List.take (Int.toNat r_2) r_1.2.2.2.1)).length) * 120 ≤ lim) then
            (bif decide (0 ≤ IntKind.i64.wrap (r_2 + 1)) then
              (bif decide (IntKind.i64.wrap (r_2 + 1) ≤ (↑(List.length r_1.2.2.2.1) : Int)) then
                (bif decide ((↑(List.length r_1.2.2.2.1) : Int) ≤ (↑(List.length r_1.2.2.2.1) : Int)) then
                  (bif decide ((([] ++ List.drop (Int.toNat 0) (List.take (Int.toNat r_2) r_1.2.2.2.1)).length + (List.drop (IntKind.i64.wrap (r_2 + 1)).toNat (List.take (↑(List.length r_1.2.2.2.1) : Int).toNat r_1.2.2.2.1)).length) * 120 ≤ lim) then
                    (ob (F.spec_l2Copy N (r_1.1, x10c1a, r_1.2.2.1, [] ++ List.drop (Int.toNat 0) (List.take (Int.toNat r_2) r_1.2.2.2.1) ++ List.drop (IntKind.i64.wrap (r_2 + 1)).toNat (List.take (↑(List.length r_1.2.2.2.1) : Int).toNat r_1.2.2.2.1), r_1.2.2.2.2)) ([], [], [], [], Int.ofNat 0) fun r_9 =>
                    some (r_9, 0)) else none) else none) else none) else none) else none) else none) else none)
def spec_ClaimOver_0 (N : Nat) (b : Book) (moved : Int) (done : Bool) (r_1 : Book) (r_2 : Int) (t8c4 : Int) (w12c0 : Int) (w12c1 : Int) (w12c2 : List Txt) (w12c3 : List Use) (w12c4 : List Txt) (w12c5 : List Txt) : Nat → Int → (List Spot) → Option (Book × Int) := lp (fun _ _ => none) fun next => spec_ClaimOver_0r N b moved done r_1 r_2 t8c4 w12c0 w12c1 w12c2 w12c3 w12c4 w12c5 next
def spec_ClaimOverb (N : Nat) (I0 : Book → Int → Bool → Book → Int → Int → Int → Int → (List Txt) → (List Use) → (List Txt) → (List Txt) → Nat → Int → (List Spot) → Option (Book × Int)) (b : Book) (number : Int) (moved : Int) (done : Bool) : Option (Book × Int) :=
  ob (F.spec_ClaimBookOk N b) false fun r =>
  bif !r then
    (some (([], [], [], [], 0), 1))
  else
    (ob (F.spec_l2Copy N b) ([], [], [], [], Int.ofNat 0) fun r_1 =>
    ob (F.spec_l2Part N b number) (Int.ofNat 0) fun r_2 =>
    bif decide (r_2 < 0) then
      (some (r_1, 3))
    else
      (bif decide (0 ≤ r_2) then
        (bif decide (r_2 < (↑(List.length b.2.2.2.1) : Int)) then
          (ob (F.spec_l4Moved N (List.getD b.2.2.2.1 (Int.toNat r_2) dPart).1 moved) false fun r_3 =>
          bif !r_3 then
            (some (r_1, 2))
          else
            (bif decide (0 ≤ r_2) then
              (bif decide (r_2 < (↑(List.length b.2.2.2.1) : Int)) then
                (bif !(List.getD b.2.2.2.1 (Int.toNat r_2) dPart).2 then
                  (some (r_1, 12))
                else
                  (I0 b moved done r_1 r_2 0 ((List.getD b.2.2.2.1 (Int.toNat r_2) dPart).1.1) ((List.getD b.2.2.2.1 (Int.toNat r_2) dPart).1.2.1) ((List.getD b.2.2.2.1 (Int.toNat r_2) dPart).1.2.2.1) ((List.getD b.2.2.2.1 (Int.toNat r_2) dPart).1.2.2.2.1) ((List.getD b.2.2.2.1 (Int.toNat r_2) dPart).1.2.2.2.2.1) ((List.getD b.2.2.2.1 (Int.toNat r_2) dPart).1.2.2.2.2.2) N 0 r_1.2.1)) else none) else none)) else none) else none))
def spec_ClaimOver (N : Nat) (b : Book) (number : Int) (moved : Int) (done : Bool) : Option (Book × Int) := spec_ClaimOverb N (spec_ClaimOver_0 N) b number moved done
def impl_in (N : Nat) (n : Int) (low : Int) (high : Int) : Option Bool :=
  bif decide (n ≥ low) then
    (some (decide (n ≤ high)))
  else
    (some false)
def impl_name_0r (N : Nat) (s : Txt) (next : Int → Option Bool) : Int → Option Bool := fun i3 =>
    bif decide (i3 < (↑s.length : Int)) then
      (bif decide (0 ≤ i3) then
        (bif decide (i3 < (↑s.length : Int)) then
          (bif decide ((↑(s.getD (Int.toNat i3) 0).toNat : Int) ≥ 97) then
            (bif decide ((↑(s.getD (Int.toNat i3) 0).toNat : Int) ≤ 122) then
              (next (IntKind.i64.wrap (i3 + 1)))
            else
              (bif decide ((↑(s.getD (Int.toNat i3) 0).toNat : Int) ≥ 48) then
                (bif decide ((↑(s.getD (Int.toNat i3) 0).toNat : Int) ≤ 57) then
                  (next (IntKind.i64.wrap (i3 + 1)))
                else
                  (bif !(↑(s.getD (Int.toNat i3) 0).toNat : Int) == 45 then
                    (some false)
                  else
                    (next (IntKind.i64.wrap (i3 + 1)))))
              else
                (bif !(↑(s.getD (Int.toNat i3) 0).toNat : Int) == 45 then
                  (some false)
                else
                  (next (IntKind.i64.wrap (i3 + 1))))))
          else
            (bif decide ((↑(s.getD (Int.toNat i3) 0).toNat : Int) ≥ 48) then
              (bif decide ((↑(s.getD (Int.toNat i3) 0).toNat : Int) ≤ 57) then
                (next (IntKind.i64.wrap (i3 + 1)))
              else
                (bif !(↑(s.getD (Int.toNat i3) 0).toNat : Int) == 45 then
                  (some false)
                else
                  (next (IntKind.i64.wrap (i3 + 1)))))
            else
              (bif !(↑(s.getD (Int.toNat i3) 0).toNat : Int) == 45 then
                (some false)
              else
                (next (IntKind.i64.wrap (i3 + 1)))))) else none) else none)
    else
      (some true)
def impl_name_0 (N : Nat) (s : Txt) : Nat → Int → Option Bool := lp (fun _ => none) fun next => impl_name_0r N s next
def impl_nameb (N : Nat) (I0 : Txt → Nat → Int → Option Bool) (s : Txt) : Option Bool :=
  ob (F.impl_in N (↑s.length : Int) 1 8) false fun r =>
  bif !r then
    (some false)
  else
    (I0 s N 0)
def impl_name (N : Nat) (s : Txt) : Option Bool := impl_nameb N (impl_name_0 N) s
def impl_names_0r (N : Nat) (l : List Txt) (t12 : Int) (next : Int → Option Bool) : Int → Option Bool := fun t13 =>
    bif decide (t13 < t12) then
      (bif decide (0 ≤ t13) then
        (bif decide (t13 < (↑l.length : Int)) then
          (ob (F.impl_name N (l.getD (Int.toNat t13) [])) false fun r =>
          bif !r then
            (some false)
          else
            (bif decide (t13 > 0) then
              (bif decide (0 ≤ IntKind.i64.wrap (t13 - 1)) then
                (bif decide (IntKind.i64.wrap (t13 - 1) < (↑l.length : Int)) then
                  (bif !Op.bytesLess (l.getD (IntKind.i64.wrap (t13 - 1)).toNat []) (l.getD (Int.toNat t13) []) then
                    (some false)
                  else
                    (next (IntKind.i64.wrap (t13 + 1)))) else none) else none)
            else
              (next (IntKind.i64.wrap (t13 + 1))))) else none) else none)
    else
      (some true)
def impl_names_0 (N : Nat) (l : List Txt) (t12 : Int) : Nat → Int → Option Bool := lp (fun _ => none) fun next => impl_names_0r N l t12 next
def impl_namesb (N : Nat) (I0 : (List Txt) → Int → Nat → Int → Option Bool) (l : List Txt) (most : Int) : Option Bool :=
  bif decide ((↑l.length : Int) > most) then
    (some false)
  else
    (I0 l (↑l.length : Int) N 0)
def impl_names (N : Nat) (l : List Txt) (most : Int) : Option Bool := impl_namesb N (impl_names_0 N) l most
def impl_ClaimFoe_ahead (N : Nat) (f : Foe) (g : Foe) : Option Bool :=
  bif Op.bytesLess f.1 g.1 then
    (some true)
  else
    (bif f.1 == g.1 then
      (some (Op.bytesLess f.2 g.2))
    else
      (some false))
def slices_Index_string_0r (N : Nat) (s : List Txt) (v : Txt) (t7 : Int) (next : Int → Option Int) : Int → Option Int := fun t8 =>
    bif decide (t8 < t7) then
      (bif decide (0 ≤ t8) then
        (bif decide (t8 < (↑s.length : Int)) then
          (bif v == s.getD (Int.toNat t8) [] then
            (some t8)
          else
            (next (IntKind.i64.wrap (t8 + 1)))) else none) else none)
    else
      (some (-1))
def slices_Index_string_0 (N : Nat) (s : List Txt) (v : Txt) (t7 : Int) : Nat → Int → Option Int := lp (fun _ => none) fun next => slices_Index_string_0r N s v t7 next
def slices_Index_stringb (N : Nat) (I0 : (List Txt) → Txt → Int → Nat → Int → Option Int) (s : List Txt) (v : Txt) : Option Int :=
  I0 s v (↑s.length : Int) N 0
def slices_Index_string (N : Nat) (s : List Txt) (v : Txt) : Option Int := slices_Index_stringb N (slices_Index_string_0 N) s v
def slices_Contains_string (N : Nat) (s : List Txt) (v : Txt) : Option Bool :=
  ob (F.slices_Index_string N s v) (Int.ofNat 0) fun r =>
  some (decide (r ≥ 0))
def impl_ClaimBook_foes_0r (N : Nat) (b : Book) (x : List Txt) (y : List Txt) (t11 : Int) (next : Int → Option Bool) : Int → Option Bool := fun t12 =>
    bif decide (t12 < t11) then
      (bif decide (0 ≤ t12) then
        (bif decide (t12 < (↑(List.length b.1) : Int)) then
          (ob (F.slices_Contains_string N x (List.getD b.1 (Int.toNat t12) dFoe).1) false fun r =>
          bif r then
            (ob (F.slices_Contains_string N y (List.getD b.1 (Int.toNat t12) dFoe).2) false fun r_1 =>
            bif r_1 then
              (some true)
            else
              (ob (F.slices_Contains_string N x (List.getD b.1 (Int.toNat t12) dFoe).2) false fun r_2 =>
              bif r_2 then
                (ob (F.slices_Contains_string N y (List.getD b.1 (Int.toNat t12) dFoe).1) false fun r_3 =>
                bif r_3 then
                  (some true)
                else
                  (next (IntKind.i64.wrap (t12 + 1))))
              else
                (next (IntKind.i64.wrap (t12 + 1)))))
          else
            (ob (F.slices_Contains_string N x (List.getD b.1 (Int.toNat t12) dFoe).2) false fun r_4 =>
            bif r_4 then
              (ob (F.slices_Contains_string N y (List.getD b.1 (Int.toNat t12) dFoe).1) false fun r_5 =>
              bif r_5 then
                (some true)
              else
                (next (IntKind.i64.wrap (t12 + 1))))
            else
              (next (IntKind.i64.wrap (t12 + 1))))) else none) else none)
    else
      (some false)
def impl_ClaimBook_foes_0 (N : Nat) (b : Book) (x : List Txt) (y : List Txt) (t11 : Int) : Nat → Int → Option Bool := lp (fun _ => none) fun next => impl_ClaimBook_foes_0r N b x y t11 next
def impl_ClaimBook_foesb (N : Nat) (I0 : Book → (List Txt) → (List Txt) → Int → Nat → Int → Option Bool) (b : Book) (x : List Txt) (y : List Txt) : Option Bool :=
  I0 b x y (↑(List.length b.1) : Int) N 0
def impl_ClaimBook_foes (N : Nat) (b : Book) (x : List Txt) (y : List Txt) : Option Bool := impl_ClaimBook_foesb N (impl_ClaimBook_foes_0 N) b x y
def impl_common_c1 (N : Nat) (s : Txt) (p1 : List Txt) : Option (Bool × List Txt) :=
  ob (F.slices_Contains_string N p1 s) false fun r =>
  some (r, p1)
def slices_IndexFunc_string__impl_common_c1_0r (N : Nat) (s : List Txt) (t7 : Int) (next : Int → (List Txt) → Option (Int × List Txt)) : Int → (List Txt) → Option (Int × List Txt) := fun t8 fpc0 =>
    bif decide (t8 < t7) then
      (bif decide (0 ≤ t8) then
        (bif decide (t8 < (↑s.length : Int)) then
          (ob (F.impl_common_c1 N (s.getD (Int.toNat t8) []) fpc0) (false, []) fun r_1 =>
          bif r_1.1 then
            (some (t8, r_1.2))
          else
            (next (IntKind.i64.wrap (t8 + 1)) r_1.2)) else none) else none)
    else
      (some (-1, fpc0))
def slices_IndexFunc_string__impl_common_c1_0 (N : Nat) (s : List Txt) (t7 : Int) : Nat → Int → (List Txt) → Option (Int × List Txt) := lp (fun _ _ => none) fun next => slices_IndexFunc_string__impl_common_c1_0r N s t7 next
def slices_IndexFunc_string__impl_common_c1b (N : Nat) (I0 : (List Txt) → Int → Nat → Int → (List Txt) → Option (Int × List Txt)) (s : List Txt) (p1 : List Txt) : Option (Int × List Txt) :=
  I0 s (↑s.length : Int) N 0 p1
def slices_IndexFunc_string__impl_common_c1 (N : Nat) (s : List Txt) (p1 : List Txt) : Option (Int × List Txt) := slices_IndexFunc_string__impl_common_c1b N (slices_IndexFunc_string__impl_common_c1_0 N) s p1
def slices_ContainsFunc_string__impl_common_c1 (N : Nat) (s : List Txt) (p1 : List Txt) : Option (Bool × List Txt) :=
  ob (F.slices_IndexFunc_string__impl_common_c1 N s p1) (Int.ofNat 0, []) fun r =>
  some (decide (r.1 ≥ 0), r.2)
def impl_common (N : Nat) (a : List Txt) (b : List Txt) : Option Bool :=
  ob (F.slices_ContainsFunc_string__impl_common_c1 N a b) (false, []) fun r =>
  some r.1
def impl_ClaimWantOk_0r (N : Nat) (w : Want) (move3 : Bool) (t41 : Int) (next : Int → Option Bool) : Int → Option Bool := fun t42 =>
    bif decide (t42 < t41) then
      (bif decide (0 ≤ t42) then
        (bif decide (t42 < (↑(List.length w.2.2.2.1) : Int)) then
          (ob (F.impl_name N (List.getD w.2.2.2.1 (Int.toNat t42) dUse).1) false fun r_3 =>
          bif !r_3 then
            (some false)
          else
            (bif decide (t42 > 0) then
              (bif decide (0 ≤ IntKind.i64.wrap (t42 - 1)) then
                (bif decide (IntKind.i64.wrap (t42 - 1) < (↑(List.length w.2.2.2.1) : Int)) then
                  (bif !Op.bytesLess (List.getD w.2.2.2.1 (IntKind.i64.wrap (t42 - 1)).toNat dUse).1 (List.getD w.2.2.2.1 (Int.toNat t42) dUse).1 then
                    (some false)
                  else
                    (ob (F.impl_in N (List.getD w.2.2.2.1 (Int.toNat t42) dUse).2.1 1 3) false fun r_4 =>
                    bif !r_4 then
                      (some false)
                    else
                      (bif (List.getD w.2.2.2.1 (Int.toNat t42) dUse).2.1 == 3 then
                        (bif (List.getD w.2.2.2.1 (Int.toNat t42) dUse).2.2 != 0 then
                          (some false)
                        else
                          (next (IntKind.i64.wrap (t42 + 1))))
                      else
                        (bif !move3 then
                          (some false)
                        else
                          (ob (F.impl_in N (List.getD w.2.2.2.1 (Int.toNat t42) dUse).2.2 1 1000) false fun r_5 =>
                          bif !r_5 then
                            (some false)
                          else
                            (next (IntKind.i64.wrap (t42 + 1)))))))) else none) else none)
            else
              (ob (F.impl_in N (List.getD w.2.2.2.1 (Int.toNat t42) dUse).2.1 1 3) false fun r_6 =>
              bif !r_6 then
                (some false)
              else
                (bif (List.getD w.2.2.2.1 (Int.toNat t42) dUse).2.1 == 3 then
                  (bif (List.getD w.2.2.2.1 (Int.toNat t42) dUse).2.2 != 0 then
                    (some false)
                  else
                    (next (IntKind.i64.wrap (t42 + 1))))
                else
                  (bif !move3 then
                    (some false)
                  else
                    (ob (F.impl_in N (List.getD w.2.2.2.1 (Int.toNat t42) dUse).2.2 1 1000) false fun r_7 =>
                    bif !r_7 then
                      (some false)
                    else
                      (next (IntKind.i64.wrap (t42 + 1))))))))) else none) else none)
    else
      (ob (F.impl_names N w.2.2.2.2.1 12) false fun r_8 =>
      bif !r_8 then
        (some false)
      else
        (ob (F.impl_names N w.2.2.2.2.2 12) false fun r_9 =>
        bif !r_9 then
          (some false)
        else
          (ob (F.impl_common N w.2.2.2.2.1 w.2.2.2.2.2) false fun r_10 =>
          bif r_10 then
            (some false)
          else
            (bif !move3 then
              (bif decide ((↑(List.length w.2.2.2.2.1) : Int) > 0) then
                (some false)
              else
                (some (decide (IntKind.i64.wrap (IntKind.i64.wrap ((↑(List.length w.2.2.2.1) : Int) + (↑(List.length w.2.2.2.2.1) : Int)) + (↑(List.length w.2.2.2.2.2) : Int)) > 0))))
            else
              (some (decide (IntKind.i64.wrap (IntKind.i64.wrap ((↑(List.length w.2.2.2.1) : Int) + (↑(List.length w.2.2.2.2.1) : Int)) + (↑(List.length w.2.2.2.2.2) : Int)) > 0)))))))
def impl_ClaimWantOk_0 (N : Nat) (w : Want) (move3 : Bool) (t41 : Int) : Nat → Int → Option Bool := lp (fun _ => none) fun next => impl_ClaimWantOk_0r N w move3 t41 next
def impl_ClaimWantOkb (N : Nat) (I0 : Want → Bool → Int → Nat → Int → Option Bool) (w : Want) : Option Bool :=
  ob (F.impl_in N w.1 1 1000000) false fun r =>
  bif !r then
    (some false)
  else
    (ob (F.impl_in N w.2.1 1 3) false fun r_1 =>
    bif !r_1 then
      (some false)
    else
      (ob (F.impl_names N w.2.2.1 8) false fun r_2 =>
      bif !r_2 then
        (some false)
      else
        (bif !(w.2.1 == 1) == decide ((↑(List.length w.2.2.1) : Int) > 0) then
          (some false)
        else
          (bif decide ((↑(List.length w.2.2.2.1) : Int) > 8) then
            (some false)
          else
            (I0 w (w.2.1 == 1) (↑(List.length w.2.2.2.1) : Int) N 0)))))
def impl_ClaimWantOk (N : Nat) (w : Want) : Option Bool := impl_ClaimWantOkb N (impl_ClaimWantOk_0 N) w
def impl_ClaimBook_at_c1 (N : Nat) (s : Spot) (p1 : Txt) : Option (Bool × Txt) :=
  some (s.1 == p1, p1)
def slices_IndexFunc_ClaimSpot__impl_ClaimBook_at_c1_0r (N : Nat) (s : List Spot) (t7 : Int) (next : Int → Txt → Option (Int × Txt)) : Int → Txt → Option (Int × Txt) := fun t8 fpc0 =>
    bif decide (t8 < t7) then
      (bif decide (0 ≤ t8) then
        (bif decide (t8 < (↑s.length : Int)) then
          (ob (F.impl_ClaimBook_at_c1 N (s.getD (Int.toNat t8) dSpot) fpc0) (false, []) fun r_1 =>
          bif r_1.1 then
            (some (t8, r_1.2))
          else
            (next (IntKind.i64.wrap (t8 + 1)) r_1.2)) else none) else none)
    else
      (some (-1, fpc0))
def slices_IndexFunc_ClaimSpot__impl_ClaimBook_at_c1_0 (N : Nat) (s : List Spot) (t7 : Int) : Nat → Int → Txt → Option (Int × Txt) := lp (fun _ _ => none) fun next => slices_IndexFunc_ClaimSpot__impl_ClaimBook_at_c1_0r N s t7 next
def slices_IndexFunc_ClaimSpot__impl_ClaimBook_at_c1b (N : Nat) (I0 : (List Spot) → Int → Nat → Int → Txt → Option (Int × Txt)) (s : List Spot) (p1 : Txt) : Option (Int × Txt) :=
  I0 s (↑s.length : Int) N 0 p1
def slices_IndexFunc_ClaimSpot__impl_ClaimBook_at_c1 (N : Nat) (s : List Spot) (p1 : Txt) : Option (Int × Txt) := slices_IndexFunc_ClaimSpot__impl_ClaimBook_at_c1b N (slices_IndexFunc_ClaimSpot__impl_ClaimBook_at_c1_0 N) s p1
def impl_ClaimBook_at (N : Nat) (b : Book) (n : Txt) : Option Int :=
  ob (F.slices_IndexFunc_ClaimSpot__impl_ClaimBook_at_c1 N b.2.1 n) (Int.ofNat 0, []) fun r =>
  some r.1
def impl_within_c1 (N : Nat) (s : Txt) (p1 : List Txt) : Option (Bool × List Txt) :=
  ob (F.slices_Contains_string N p1 s) false fun r =>
  some (!r, p1)
def slices_IndexFunc_string__impl_within_c1_0r (N : Nat) (s : List Txt) (t7 : Int) (next : Int → (List Txt) → Option (Int × List Txt)) : Int → (List Txt) → Option (Int × List Txt) := fun t8 fpc0 =>
    bif decide (t8 < t7) then
      (bif decide (0 ≤ t8) then
        (bif decide (t8 < (↑s.length : Int)) then
          (ob (F.impl_within_c1 N (s.getD (Int.toNat t8) []) fpc0) (false, []) fun r_1 =>
          bif r_1.1 then
            (some (t8, r_1.2))
          else
            (next (IntKind.i64.wrap (t8 + 1)) r_1.2)) else none) else none)
    else
      (some (-1, fpc0))
def slices_IndexFunc_string__impl_within_c1_0 (N : Nat) (s : List Txt) (t7 : Int) : Nat → Int → (List Txt) → Option (Int × List Txt) := lp (fun _ _ => none) fun next => slices_IndexFunc_string__impl_within_c1_0r N s t7 next
def slices_IndexFunc_string__impl_within_c1b (N : Nat) (I0 : (List Txt) → Int → Nat → Int → (List Txt) → Option (Int × List Txt)) (s : List Txt) (p1 : List Txt) : Option (Int × List Txt) :=
  I0 s (↑s.length : Int) N 0 p1
def slices_IndexFunc_string__impl_within_c1 (N : Nat) (s : List Txt) (p1 : List Txt) : Option (Int × List Txt) := slices_IndexFunc_string__impl_within_c1b N (slices_IndexFunc_string__impl_within_c1_0 N) s p1
def slices_ContainsFunc_string__impl_within_c1 (N : Nat) (s : List Txt) (p1 : List Txt) : Option (Bool × List Txt) :=
  ob (F.slices_IndexFunc_string__impl_within_c1 N s p1) (Int.ofNat 0, []) fun r =>
  some (decide (r.1 ≥ 0), r.2)
def impl_within (N : Nat) (a : List Txt) (b : List Txt) : Option Bool :=
  ob (F.slices_ContainsFunc_string__impl_within_c1 N a b) (false, []) fun r =>
  some (!r.1)
def impl_ClaimBook_knows_0r (N : Nat) (b : Book) (w : Want) (t9 : Int) (next : Int → Option Bool) : Int → Option Bool := fun t10 =>
    bif decide (t10 < t9) then
      (bif decide (0 ≤ t10) then
        (bif decide (t10 < (↑(List.length w.2.2.2.1) : Int)) then
          (ob (F.impl_ClaimBook_at N b (List.getD w.2.2.2.1 (Int.toNat t10) dUse).1) (Int.ofNat 0) fun r =>
          bif decide (r < 0) then
            (some false)
          else
            (next (IntKind.i64.wrap (t10 + 1)))) else none) else none)
    else
      (ob (F.impl_within N w.2.2.2.2.1 b.2.2.1) false fun r_1 =>
      bif r_1 then
        (ob (F.impl_within N w.2.2.2.2.2 b.2.2.1) false fun r_2 =>
        some r_2)
      else
        (some false))
def impl_ClaimBook_knows_0 (N : Nat) (b : Book) (w : Want) (t9 : Int) : Nat → Int → Option Bool := lp (fun _ => none) fun next => impl_ClaimBook_knows_0r N b w t9 next
def impl_ClaimBook_knowsb (N : Nat) (I0 : Book → Want → Int → Nat → Int → Option Bool) (b : Book) (w : Want) : Option Bool :=
  I0 b w (↑(List.length w.2.2.2.1) : Int) N 0
def impl_ClaimBook_knows (N : Nat) (b : Book) (w : Want) : Option Bool := impl_ClaimBook_knowsb N (impl_ClaimBook_knows_0 N) b w
def impl_ClaimBook_partOk_0r (N : Nat) (b : Book) (p : Part) (t29 : Int) (next : Int → Option Bool) : Int → Option Bool := fun t30 =>
    bif decide (t30 < t29) then
      (bif decide (0 ≤ t30) then
        (bif decide (t30 < (↑(List.length p.1.2.2.2.1) : Int)) then
          (ob (F.impl_ClaimBook_at N b (List.getD p.1.2.2.2.1 (Int.toNat t30) dUse).1) (Int.ofNat 0) fun r_2 =>
          bif decide (0 ≤ r_2) then
            (bif decide (r_2 < (↑(List.length b.2.1) : Int)) then
              (bif decide (IntKind.i64.wrap ((List.getD b.2.1 (Int.toNat r_2) dSpot).2.2.1 + (List.getD p.1.2.2.2.1 (Int.toNat t30) dUse).2.2) > (List.getD b.2.1 (Int.toNat r_2) dSpot).2.2.2.1) then
                (some false)
              else
                (bif p.1.2.1 == 2 then
                  (bif (List.getD b.2.1 (Int.toNat r_2) dSpot).2.2.2.1 != 0 then
                    (some false)
                  else
                    (bif p.1.2.1 == 1 then
                      (bif (List.getD p.1.2.2.2.1 (Int.toNat t30) dUse).2.1 != 2 then
                        (ob (F.impl_within N (List.getD b.2.1 (Int.toNat r_2) dSpot).2.2.2.2 p.1.2.2.1) false fun r_3 =>
                        bif !r_3 then
                          (some false)
                        else
                          (bif (List.getD p.1.2.2.2.1 (Int.toNat t30) dUse).2.1 != 1 then
                            (ob (F.impl_within N p.1.2.2.1 (List.getD b.2.1 (Int.toNat r_2) dSpot).2.2.2.2) false fun r_4 =>
                            bif !r_4 then
                              (some false)
                            else
                              (next (IntKind.i64.wrap (t30 + 1))))
                          else
                            (next (IntKind.i64.wrap (t30 + 1)))))
                      else
                        (bif (List.getD p.1.2.2.2.1 (Int.toNat t30) dUse).2.1 != 1 then
                          (ob (F.impl_within N p.1.2.2.1 (List.getD b.2.1 (Int.toNat r_2) dSpot).2.2.2.2) false fun r_5 =>
                          bif !r_5 then
                            (some false)
                          else
                            (next (IntKind.i64.wrap (t30 + 1))))
                        else
                          (next (IntKind.i64.wrap (t30 + 1)))))
                    else
                      (next (IntKind.i64.wrap (t30 + 1)))))
                else
                  (bif p.1.2.1 == 1 then
                    (bif (List.getD p.1.2.2.2.1 (Int.toNat t30) dUse).2.1 != 2 then
                      (ob (F.impl_within N (List.getD b.2.1 (Int.toNat r_2) dSpot).2.2.2.2 p.1.2.2.1) false fun r_6 =>
                      bif !r_6 then
                        (some false)
                      else
                        (bif (List.getD p.1.2.2.2.1 (Int.toNat t30) dUse).2.1 != 1 then
                          (ob (F.impl_within N p.1.2.2.1 (List.getD b.2.1 (Int.toNat r_2) dSpot).2.2.2.2) false fun r_7 =>
                          bif !r_7 then
                            (some false)
                          else
                            (next (IntKind.i64.wrap (t30 + 1))))
                        else
                          (next (IntKind.i64.wrap (t30 + 1)))))
                    else
                      (bif (List.getD p.1.2.2.2.1 (Int.toNat t30) dUse).2.1 != 1 then
                        (ob (F.impl_within N p.1.2.2.1 (List.getD b.2.1 (Int.toNat r_2) dSpot).2.2.2.2) false fun r_8 =>
                        bif !r_8 then
                          (some false)
                        else
                          (next (IntKind.i64.wrap (t30 + 1))))
                      else
                        (next (IntKind.i64.wrap (t30 + 1)))))
                  else
                    (next (IntKind.i64.wrap (t30 + 1)))))) else none) else none) else none) else none)
    else
      (some true)
def impl_ClaimBook_partOk_0 (N : Nat) (b : Book) (p : Part) (t29 : Int) : Nat → Int → Option Bool := lp (fun _ => none) fun next => impl_ClaimBook_partOk_0r N b p t29 next
def impl_ClaimBook_partOkb (N : Nat) (I0 : Book → Part → Int → Nat → Int → Option Bool) (b : Book) (p : Part) : Option Bool :=
  bif decide (p.1.1 > b.2.2.2.2) then
    (some false)
  else
    (ob (F.impl_ClaimWantOk N p.1) false fun r =>
    bif !r then
      (some false)
    else
      (ob (F.impl_ClaimBook_knows N b p.1) false fun r_1 =>
      bif !r_1 then
        (some false)
      else
        (I0 b p (↑(List.length p.1.2.2.2.1) : Int) N 0)))
def impl_ClaimBook_partOk (N : Nat) (b : Book) (p : Part) : Option Bool := impl_ClaimBook_partOkb N (impl_ClaimBook_partOk_0 N) b p
def impl_share_c1_c1 (N : Nat) (v : Use) (p1 : Use) : Option (Bool × Use) :=
  some (p1.1 == v.1, p1)
def slices_IndexFunc_ClaimUse__impl_share_c1_c1_0r (N : Nat) (s : List Use) (t7 : Int) (next : Int → Txt → Int → Int → Option (Int × Use)) : Int → Txt → Int → Int → Option (Int × Use) := fun t8 fpc0 fpc1 fpc2 =>
    bif decide (t8 < t7) then
      (bif decide (0 ≤ t8) then
        (bif decide (t8 < (↑s.length : Int)) then
          (ob (F.impl_share_c1_c1 N (s.getD (Int.toNat t8) dUse) (fpc0, fpc1, fpc2)) (false, [], Int.ofNat 0, Int.ofNat 0) fun r_1 =>
          bif r_1.1 then
            (some (t8, r_1.2))
          else
            (next (IntKind.i64.wrap (t8 + 1)) r_1.2.1 r_1.2.2.1 r_1.2.2.2)) else none) else none)
    else
      (some (-1, fpc0, fpc1, fpc2))
def slices_IndexFunc_ClaimUse__impl_share_c1_c1_0 (N : Nat) (s : List Use) (t7 : Int) : Nat → Int → Txt → Int → Int → Option (Int × Use) := lp (fun _ _ _ _ => none) fun next => slices_IndexFunc_ClaimUse__impl_share_c1_c1_0r N s t7 next
def slices_IndexFunc_ClaimUse__impl_share_c1_c1b (N : Nat) (I0 : (List Use) → Int → Nat → Int → Txt → Int → Int → Option (Int × Use)) (s : List Use) (p1 : Use) : Option (Int × Use) :=
  I0 s (↑s.length : Int) N 0 p1.1 p1.2.1 p1.2.2
def slices_IndexFunc_ClaimUse__impl_share_c1_c1 (N : Nat) (s : List Use) (p1 : Use) : Option (Int × Use) := slices_IndexFunc_ClaimUse__impl_share_c1_c1b N (slices_IndexFunc_ClaimUse__impl_share_c1_c1_0 N) s p1
def slices_ContainsFunc_ClaimUse__impl_share_c1_c1 (N : Nat) (s : List Use) (p1 : Use) : Option (Bool × Use) :=
  ob (F.slices_IndexFunc_ClaimUse__impl_share_c1_c1 N s p1) (Int.ofNat 0, [], Int.ofNat 0, Int.ofNat 0) fun r =>
  some (decide (r.1 ≥ 0), r.2)
def impl_share_c1 (N : Nat) (u : Use) (p1 : Want) : Option (Bool × Want) :=
  ob (F.slices_ContainsFunc_ClaimUse__impl_share_c1_c1 N p1.2.2.2.1 u) (false, [], Int.ofNat 0, Int.ofNat 0) fun r =>
  some (r.1, p1)
def slices_IndexFunc_ClaimUse__impl_share_c1_0r (N : Nat) (s : List Use) (t7 : Int) (next : Int → Int → Int → (List Txt) → (List Use) → (List Txt) → (List Txt) → Option (Int × Want)) : Int → Int → Int → (List Txt) → (List Use) → (List Txt) → (List Txt) → Option (Int × Want) := fun t8 fpc0 fpc1 fpc2 fpc3 fpc4 fpc5 =>
    bif decide (t8 < t7) then
      (bif decide (0 ≤ t8) then
        (bif decide (t8 < (↑s.length : Int)) then
          (ob (F.impl_share_c1 N (s.getD (Int.toNat t8) dUse) (fpc0, fpc1, fpc2, fpc3, fpc4, fpc5)) (false, Int.ofNat 0, Int.ofNat 0, [], [], [], []) fun r_1 =>
          bif r_1.1 then
            (some (t8, r_1.2))
          else
            (next (IntKind.i64.wrap (t8 + 1)) r_1.2.1 r_1.2.2.1 r_1.2.2.2.1 r_1.2.2.2.2.1 r_1.2.2.2.2.2.1 r_1.2.2.2.2.2.2)) else none) else none)
    else
      (some (-1, fpc0, fpc1, fpc2, fpc3, fpc4, fpc5))
def slices_IndexFunc_ClaimUse__impl_share_c1_0 (N : Nat) (s : List Use) (t7 : Int) : Nat → Int → Int → Int → (List Txt) → (List Use) → (List Txt) → (List Txt) → Option (Int × Want) := lp (fun _ _ _ _ _ _ _ => none) fun next => slices_IndexFunc_ClaimUse__impl_share_c1_0r N s t7 next
def slices_IndexFunc_ClaimUse__impl_share_c1b (N : Nat) (I0 : (List Use) → Int → Nat → Int → Int → Int → (List Txt) → (List Use) → (List Txt) → (List Txt) → Option (Int × Want)) (s : List Use) (p1 : Want) : Option (Int × Want) :=
  I0 s (↑s.length : Int) N 0 p1.1 p1.2.1 p1.2.2.1 p1.2.2.2.1 p1.2.2.2.2.1 p1.2.2.2.2.2
def slices_IndexFunc_ClaimUse__impl_share_c1 (N : Nat) (s : List Use) (p1 : Want) : Option (Int × Want) := slices_IndexFunc_ClaimUse__impl_share_c1b N (slices_IndexFunc_ClaimUse__impl_share_c1_0 N) s p1
def slices_ContainsFunc_ClaimUse__impl_share_c1 (N : Nat) (s : List Use) (p1 : Want) : Option (Bool × Want) :=
  ob (F.slices_IndexFunc_ClaimUse__impl_share_c1 N s p1) (Int.ofNat 0, Int.ofNat 0, Int.ofNat 0, [], [], [], []) fun r =>
  some (decide (r.1 ≥ 0), r.2)
def impl_share (N : Nat) (a : Want) (b : Want) : Option Bool :=
  ob (F.slices_ContainsFunc_ClaimUse__impl_share_c1 N a.2.2.2.1 b) (false, Int.ofNat 0, Int.ofNat 0, [], [], [], []) fun r =>
  some r.1
def impl_cross (N : Nat) (a : Want) (b : Want) : Option Bool :=
  ob (F.impl_common N a.2.2.2.2.1 b.2.2.2.2.1) false fun r =>
  bif r then
    (some true)
  else
    (ob (F.impl_common N a.2.2.2.2.1 b.2.2.2.2.2) false fun r_1 =>
    bif r_1 then
      (some true)
    else
      (ob (F.impl_common N a.2.2.2.2.2 b.2.2.2.2.1) false fun r_2 =>
      some r_2))
def impl_ClaimBookOk_6r (N : Nat) (nx4 : Int → Option Bool) (b : Book) (t150 : Int) (t151 : Int) (t181 : List Part) (t182 : Int) (p8c0 : Int) (p8c1 : Int) (p8c2 : List Txt) (p8c3 : List Use) (p8c4 : List Txt) (p8c5 : List Txt) (p8c6 : Bool) (next : Int → Option Bool) : Int → Option Bool := fun t183 =>
    bif decide (t183 < t182) then
      (bif decide (0 ≤ t183) then
        (bif decide (t183 < (↑(List.length t181) : Int)) then
          (ob (F.impl_share N (p8c0, p8c1, p8c2, p8c3, p8c4, p8c5) (List.getD t181 (Int.toNat t183) dPart).1) false fun r_13 =>
          bif r_13 then
            (some false)
          else
            (ob (F.impl_cross N (p8c0, p8c1, p8c2, p8c3, p8c4, p8c5) (List.getD t181 (Int.toNat t183) dPart).1) false fun r_14 =>
            bif r_14 then
              (some false)
            else
              (next (IntKind.i64.wrap (t183 + 1))))) else none) else none)
    else
      (nx4 (IntKind.i64.wrap (t151 + 1)))
def impl_ClaimBookOk_6 (N : Nat) (nx4 : Int → Option Bool) (b : Book) (t150 : Int) (t151 : Int) (t181 : List Part) (t182 : Int) (p8c0 : Int) (p8c1 : Int) (p8c2 : List Txt) (p8c3 : List Use) (p8c4 : List Txt) (p8c5 : List Txt) (p8c6 : Bool) : Nat → Int → Option Bool := lp (fun _ => none) fun next => impl_ClaimBookOk_6r N nx4 b t150 t151 t181 t182 p8c0 p8c1 p8c2 p8c3 p8c4 p8c5 p8c6 next
def impl_ClaimBookOk_4r (N : Nat) (I0 : Int → (List Part) → Int → Int → Int → (List Txt) → (List Use) → (List Txt) → (List Txt) → Bool → Nat → Int → Option Bool) (b : Book) (t150 : Int) (next : Int → Option Bool) : Int → Option Bool := fun t151 =>
    bif decide (t151 < t150) then
      (bif decide (0 ≤ t151) then
        (bif decide (t151 < (↑(List.length b.2.2.2.1) : Int)) then
          (bif decide (t151 > 0) then
            (bif decide (0 ≤ IntKind.i64.wrap (t151 - 1)) then
              (bif decide (IntKind.i64.wrap (t151 - 1) < (↑(List.length b.2.2.2.1) : Int)) then
                (bif decide ((List.getD b.2.2.2.1 (IntKind.i64.wrap (t151 - 1)).toNat dPart).1.1 ≥ (List.getD b.2.2.2.1 (Int.toNat t151) dPart).1.1) then
                  (some false)
                else
                  (ob (F.impl_ClaimBook_partOk N b (List.getD b.2.2.2.1 (Int.toNat t151) dPart)) false fun r_12 =>
                  bif !r_12 then
                    (some false)
                  else
                    (bif decide (0 ≤ t151) then
                      (bif decide (t151 ≤ (↑(List.length b.2.2.2.1) : Int)) then
                        (I0 t151 (List.drop (Int.toNat 0) (List.take (Int.toNat t151) b.2.2.2.1)) (↑(List.drop (Int.toNat 0) (List.take (Int.toNat t151) b.2.2.2.1)).length : Int) ((List.getD b.2.2.2.1 (Int.toNat t151) dPart).1.1) ((List.getD b.2.2.2.1 (Int.toNat t151) dPart).1.2.1) ((List.getD b.2.2.2.1 (Int.toNat t151) dPart).1.2.2.1) ((List.getD b.2.2.2.1 (Int.toNat t151) dPart).1.2.2.2.1) ((List.getD b.2.2.2.1 (Int.toNat t151) dPart).1.2.2.2.2.1) ((List.getD b.2.2.2.1 (Int.toNat t151) dPart).1.2.2.2.2.2) ((List.getD b.2.2.2.1 (Int.toNat t151) dPart).2) N 0) else none) else none))) else none) else none)
          else
            (ob (F.impl_ClaimBook_partOk N b (List.getD b.2.2.2.1 (Int.toNat t151) dPart)) false fun r_15 =>
            bif !r_15 then
              (some false)
            else
              (bif decide (0 ≤ t151) then
                (bif decide (t151 ≤ (↑(List.length b.2.2.2.1) : Int)) then
                  (I0 t151 (List.drop (Int.toNat 0) (List.take (Int.toNat t151) b.2.2.2.1)) (↑(List.drop (Int.toNat 0) (List.take (Int.toNat t151) b.2.2.2.1)).length : Int) ((List.getD b.2.2.2.1 (Int.toNat t151) dPart).1.1) ((List.getD b.2.2.2.1 (Int.toNat t151) dPart).1.2.1) ((List.getD b.2.2.2.1 (Int.toNat t151) dPart).1.2.2.1) ((List.getD b.2.2.2.1 (Int.toNat t151) dPart).1.2.2.2.1) ((List.getD b.2.2.2.1 (Int.toNat t151) dPart).1.2.2.2.2.1) ((List.getD b.2.2.2.1 (Int.toNat t151) dPart).1.2.2.2.2.2) ((List.getD b.2.2.2.1 (Int.toNat t151) dPart).2) N 0) else none) else none))) else none) else none)
    else
      (some true)
def impl_ClaimBookOk_4 (N : Nat) (b : Book) (t150 : Int) : Nat → Int → Option Bool := lp (fun _ => none) fun next => impl_ClaimBookOk_4r N (impl_ClaimBookOk_6 N next b t150) b t150 next
def impl_ClaimBookOk_2r (N : Nat) (I1 : Book → Int → Nat → Int → Option Bool) (b : Book) (t82 : Int) (next : Int → Option Bool) : Int → Option Bool := fun t83 =>
    bif decide (t83 < t82) then
      (bif decide (0 ≤ t83) then
        (bif decide (t83 < (↑(List.length b.2.1) : Int)) then
          (ob (F.impl_name N (List.getD b.2.1 (Int.toNat t83) dSpot).1) false fun r_5 =>
          bif !r_5 then
            (some false)
          else
            (bif decide (t83 > 0) then
              (bif decide (0 ≤ IntKind.i64.wrap (t83 - 1)) then
                (bif decide (IntKind.i64.wrap (t83 - 1) < (↑(List.length b.2.1) : Int)) then
                  (bif !Op.bytesLess (List.getD b.2.1 (IntKind.i64.wrap (t83 - 1)).toNat dSpot).1 (List.getD b.2.1 (Int.toNat t83) dSpot).1 then
                    (some false)
                  else
                    (ob (F.impl_in N (List.getD b.2.1 (Int.toNat t83) dSpot).2.1 0 1000) false fun r_6 =>
                    bif !r_6 then
                      (some false)
                    else
                      (bif decide ((List.getD b.2.1 (Int.toNat t83) dSpot).2.2.1 < 0) then
                        (some false)
                      else
                        (bif decide ((List.getD b.2.1 (Int.toNat t83) dSpot).2.2.1 > (List.getD b.2.1 (Int.toNat t83) dSpot).2.2.2.1) then
                          (some false)
                        else
                          (bif decide ((List.getD b.2.1 (Int.toNat t83) dSpot).2.2.2.1 > (List.getD b.2.1 (Int.toNat t83) dSpot).2.1) then
                            (some false)
                          else
                            (ob (F.impl_names N (List.getD b.2.1 (Int.toNat t83) dSpot).2.2.2.2 8) false fun r_7 =>
                            bif !r_7 then
                              (some false)
                            else
                              (ob (F.impl_ClaimBook_foes N b (List.getD b.2.1 (Int.toNat t83) dSpot).2.2.2.2 (List.getD b.2.1 (Int.toNat t83) dSpot).2.2.2.2) false fun r_8 =>
                              bif r_8 then
                                (some false)
                              else
                                (next (IntKind.i64.wrap (t83 + 1)))))))))) else none) else none)
            else
              (ob (F.impl_in N (List.getD b.2.1 (Int.toNat t83) dSpot).2.1 0 1000) false fun r_9 =>
              bif !r_9 then
                (some false)
              else
                (bif decide ((List.getD b.2.1 (Int.toNat t83) dSpot).2.2.1 < 0) then
                  (some false)
                else
                  (bif decide ((List.getD b.2.1 (Int.toNat t83) dSpot).2.2.1 > (List.getD b.2.1 (Int.toNat t83) dSpot).2.2.2.1) then
                    (some false)
                  else
                    (bif decide ((List.getD b.2.1 (Int.toNat t83) dSpot).2.2.2.1 > (List.getD b.2.1 (Int.toNat t83) dSpot).2.1) then
                      (some false)
                    else
                      (ob (F.impl_names N (List.getD b.2.1 (Int.toNat t83) dSpot).2.2.2.2 8) false fun r_10 =>
                      bif !r_10 then
                        (some false)
                      else
                        (ob (F.impl_ClaimBook_foes N b (List.getD b.2.1 (Int.toNat t83) dSpot).2.2.2.2 (List.getD b.2.1 (Int.toNat t83) dSpot).2.2.2.2) false fun r_11 =>
                        bif r_11 then
                          (some false)
                        else
                          (next (IntKind.i64.wrap (t83 + 1))))))))))) else none) else none)
    else
      (I1 b (↑(List.length b.2.2.2.1) : Int) N 0)
def impl_ClaimBookOk_2 (N : Nat) (b : Book) (t82 : Int) : Nat → Int → Option Bool := lp (fun _ => none) fun next => impl_ClaimBookOk_2r N (impl_ClaimBookOk_4 N) b t82 next
def impl_ClaimBookOk_0r (N : Nat) (I2 : Book → Int → Nat → Int → Option Bool) (b : Book) (t41 : Int) (next : Int → Option Bool) : Int → Option Bool := fun t42 =>
    bif decide (t42 < t41) then
      (bif decide (0 ≤ t42) then
        (bif decide (t42 < (↑(List.length b.1) : Int)) then
          (ob (F.impl_name N (List.getD b.1 (Int.toNat t42) dFoe).1) false fun r_2 =>
          bif !r_2 then
            (some false)
          else
            (ob (F.impl_name N (List.getD b.1 (Int.toNat t42) dFoe).2) false fun r_3 =>
            bif !r_3 then
              (some false)
            else
              (bif !Op.bytesLess (List.getD b.1 (Int.toNat t42) dFoe).1 (List.getD b.1 (Int.toNat t42) dFoe).2 then
                (some false)
              else
                (bif decide (t42 > 0) then
                  (bif decide (0 ≤ IntKind.i64.wrap (t42 - 1)) then
                    (bif decide (IntKind.i64.wrap (t42 - 1) < (↑(List.length b.1) : Int)) then
                      (ob (F.impl_ClaimFoe_ahead N (List.getD b.1 (IntKind.i64.wrap (t42 - 1)).toNat dFoe) (List.getD b.1 (Int.toNat t42) dFoe)) false fun r_4 =>
                      bif !r_4 then
                        (some false)
                      else
                        (next (IntKind.i64.wrap (t42 + 1)))) else none) else none)
                else
                  (next (IntKind.i64.wrap (t42 + 1))))))) else none) else none)
    else
      (I2 b (↑(List.length b.2.1) : Int) N 0)
def impl_ClaimBookOk_0 (N : Nat) (b : Book) (t41 : Int) : Nat → Int → Option Bool := lp (fun _ => none) fun next => impl_ClaimBookOk_0r N (impl_ClaimBookOk_2 N) b t41 next
def impl_ClaimBookOkb (N : Nat) (I3 : Book → Int → Nat → Int → Option Bool) (b : Book) : Option Bool :=
  bif decide ((↑(List.length b.1) : Int) > 12) then
    (some false)
  else
    (bif decide ((↑(List.length b.2.1) : Int) > 8) then
      (some false)
    else
      (bif decide ((↑(List.length b.2.2.2.1) : Int) > 6) then
        (some false)
      else
        (ob (F.impl_names N b.2.2.1 12) false fun r =>
        bif !r then
          (some false)
        else
          (ob (F.impl_in N b.2.2.2.2 0 1000000) false fun r_1 =>
          bif !r_1 then
            (some false)
          else
            (I3 b (↑(List.length b.1) : Int) N 0)))))
def impl_ClaimBookOk (N : Nat) (b : Book) : Option Bool := impl_ClaimBookOkb N (impl_ClaimBookOk_0 N) b
def slices_Clone_ClaimFoe (N : Nat) (s : List Foe) : Option (List Foe) :=
  bif isEmp s then
    (both (some []) (bif decide ((0 + s.length) * 32 ≤ lim) then
      (some ([] ++ s)) else none))
  else
    (bif decide ((0 + s.length) * 32 ≤ lim) then
      (some ([] ++ s)) else none)
def slices_Clone_string (N : Nat) (s : List Txt) : Option (List Txt) :=
  bif isEmp s then
    (both (some []) (bif decide ((0 + s.length) * 16 ≤ lim) then
      (some ([] ++ s)) else none))
  else
    (bif decide ((0 + s.length) * 16 ≤ lim) then
      (some ([] ++ s)) else none)
def slices_Clone_ClaimUse (N : Nat) (s : List Use) : Option (List Use) :=
  bif isEmp s then
    (both (some []) (bif decide ((0 + s.length) * 32 ≤ lim) then
      (some ([] ++ s)) else none))
  else
    (bif decide ((0 + s.length) * 32 ≤ lim) then
      (some ([] ++ s)) else none)
def impl_copyWant (N : Nat) (w : Want) : Option Want :=
  ob (F.slices_Clone_string N w.2.2.1) [] fun r =>
  ob (F.slices_Clone_ClaimUse N w.2.2.2.1) [] fun r_1 =>
  ob (F.slices_Clone_string N w.2.2.2.2.1) [] fun r_2 =>
  ob (F.slices_Clone_string N w.2.2.2.2.2) [] fun r_3 =>
  some (w.1, w.2.1, r, r_1, r_2, r_3)
def impl_copyBook_2r (N : Nat) (b : Book) (r : List Foe) (r_1 : List Txt) (t2c4 : Int) (out3c1a : List Spot) (t37 : Int) (next : Int → (List Part) → Option Book) : Int → (List Part) → Option Book := fun t38 out3c3a =>
    bif decide (t38 < t37) then
      (bif decide (0 ≤ t38) then
        (bif decide (t38 < (↑(List.length b.2.2.2.1) : Int)) then
          (ob (F.impl_copyWant N (List.getD b.2.2.2.1 (Int.toNat t38) dPart).1) dWant fun r_3 =>
          bif decide ((out3c3a.length + [(r_3, (List.getD b.2.2.2.1 (Int.toNat t38) dPart).2)].length) * 120 ≤ lim) then
            (next (IntKind.i64.wrap (t38 + 1)) (out3c3a ++ [(r_3, (List.getD b.2.2.2.1 (Int.toNat t38) dPart).2)])) else none) else none) else none)
    else
      (some (r, out3c1a, r_1, out3c3a, b.2.2.2.2))
def impl_copyBook_2 (N : Nat) (b : Book) (r : List Foe) (r_1 : List Txt) (t2c4 : Int) (out3c1a : List Spot) (t37 : Int) : Nat → Int → (List Part) → Option Book := lp (fun _ _ => none) fun next => impl_copyBook_2r N b r r_1 t2c4 out3c1a t37 next
def impl_copyBook_0r (N : Nat) (I0 : Book → (List Foe) → (List Txt) → Int → (List Spot) → Int → Nat → Int → (List Part) → Option Book) (b : Book) (r : List Foe) (r_1 : List Txt) (t19 : Int) (t2c4 : Int) (next : Int → (List Spot) → Option Book) : Int → (List Spot) → Option Book := fun t20 out3c1a =>
    bif decide (t20 < t19) then
      (bif decide (0 ≤ t20) then
        (bif decide (t20 < (↑(List.length b.2.1) : Int)) then
          (ob (F.slices_Clone_string N (List.getD b.2.1 (Int.toNat t20) dSpot).2.2.2.2) [] fun r_2 =>
          bif decide ((out3c1a.length + [((List.getD b.2.1 (Int.toNat t20) dSpot).1, (List.getD b.2.1 (Int.toNat t20) dSpot).2.1, (List.getD b.2.1 (Int.toNat t20) dSpot).2.2.1, (List.getD b.2.1 (Int.toNat t20) dSpot).2.2.2.1, r_2)].length) * 64 ≤ lim) then
            (next (IntKind.i64.wrap (t20 + 1)) (out3c1a ++ [((List.getD b.2.1 (Int.toNat t20) dSpot).1, (List.getD b.2.1 (Int.toNat t20) dSpot).2.1, (List.getD b.2.1 (Int.toNat t20) dSpot).2.2.1, (List.getD b.2.1 (Int.toNat t20) dSpot).2.2.2.1, r_2)])) else none) else none) else none)
    else
      (I0 b r r_1 t2c4 out3c1a (↑(List.length b.2.2.2.1) : Int) N 0 [])
def impl_copyBook_0 (N : Nat) (b : Book) (r : List Foe) (r_1 : List Txt) (t19 : Int) (t2c4 : Int) : Nat → Int → (List Spot) → Option Book := lp (fun _ _ => none) fun next => impl_copyBook_0r N (impl_copyBook_2 N) b r r_1 t19 t2c4 next
def impl_copyBookb (N : Nat) (I1 : Book → (List Foe) → (List Txt) → Int → Int → Nat → Int → (List Spot) → Option Book) (b : Book) : Option Book :=
  ob (F.slices_Clone_ClaimFoe N b.1) [] fun r =>
  ob (F.slices_Clone_string N b.2.2.1) [] fun r_1 =>
  I1 b r r_1 (↑(List.length b.2.1) : Int) 0 N 0 []
def impl_copyBook (N : Nat) (b : Book) : Option Book := impl_copyBookb N (impl_copyBook_0 N) b
def impl_ClaimBook_part_c1 (N : Nat) (p : Part) (p1 : Int) : Option (Bool × Int) :=
  some (p.1.1 == p1, p1)
def slices_IndexFunc_ClaimPart__impl_ClaimBook_part_c1_0r (N : Nat) (s : List Part) (t7 : Int) (next : Int → Int → Option (Int × Int)) : Int → Int → Option (Int × Int) := fun t8 fpc0 =>
    bif decide (t8 < t7) then
      (bif decide (0 ≤ t8) then
        (bif decide (t8 < (↑s.length : Int)) then
          (ob (F.impl_ClaimBook_part_c1 N (s.getD (Int.toNat t8) dPart) fpc0) (false, Int.ofNat 0) fun r_1 =>
          bif r_1.1 then
            (some (t8, r_1.2))
          else
            (next (IntKind.i64.wrap (t8 + 1)) r_1.2)) else none) else none)
    else
      (some (-1, fpc0))
def slices_IndexFunc_ClaimPart__impl_ClaimBook_part_c1_0 (N : Nat) (s : List Part) (t7 : Int) : Nat → Int → Int → Option (Int × Int) := lp (fun _ _ => none) fun next => slices_IndexFunc_ClaimPart__impl_ClaimBook_part_c1_0r N s t7 next
def slices_IndexFunc_ClaimPart__impl_ClaimBook_part_c1b (N : Nat) (I0 : (List Part) → Int → Nat → Int → Int → Option (Int × Int)) (s : List Part) (p1 : Int) : Option (Int × Int) :=
  I0 s (↑s.length : Int) N 0 p1
def slices_IndexFunc_ClaimPart__impl_ClaimBook_part_c1 (N : Nat) (s : List Part) (p1 : Int) : Option (Int × Int) := slices_IndexFunc_ClaimPart__impl_ClaimBook_part_c1b N (slices_IndexFunc_ClaimPart__impl_ClaimBook_part_c1_0 N) s p1
def impl_ClaimBook_part (N : Nat) (b : Book) (number : Int) : Option Int :=
  ob (F.slices_IndexFunc_ClaimPart__impl_ClaimBook_part_c1 N b.2.2.2.1 number) (Int.ofNat 0, Int.ofNat 0) fun r =>
  some r.1
def impl_ClaimOver_2r (N : Nat) (moved : Int) (done : Bool) (r_1 : Book) (t8c4 : Int) (w12c0 : Int) (w12c1 : Int) (w12c2 : List Txt) (w12c3 : List Use) (w12c4 : List Txt) (w12c5 : List Txt) (t74 : Int) (t8c0a : List Foe) (t8c1a : List Spot) (t8c2a : List Txt) (t8c3a : List Part) (out10c3a_1 : List Part) (next : Int → (List Spot) → Option (Book × Int)) : Int → (List Spot) → Option (Book × Int) := fun t75 out10c1a_1 =>
    bif decide (t75 < t74) then
      (bif decide (0 ≤ t75) then
        (bif decide (t75 < (↑(List.length w12c3) : Int)) then
          (ob (F.impl_ClaimBook_at N (r_1.1, out10c1a_1, r_1.2.2.1, out10c3a_1, r_1.2.2.2.2) (List.getD w12c3 (Int.toNat t75) dUse).1) (Int.ofNat 0) fun r_4 =>
          bif decide (0 ≤ r_4) then
            (bif decide (r_4 < (↑out10c1a_1.length : Int)) then
              (bif (List.getD w12c3 (Int.toNat t75) dUse).2.1 == 1 then
                (let out10c1as_7 : List Spot := out10c1a_1.set (Int.toNat r_4) ((out10c1a_1.getD (Int.toNat r_4) dSpot).1, (out10c1a_1.getD (Int.toNat r_4) dSpot).2.1, IntKind.i64.wrap ((out10c1a_1.getD (Int.toNat r_4) dSpot).2.2.1 + IntKind.i64.wrap ((List.getD w12c3 (Int.toNat t75) dUse).2.2 - moved)), (out10c1a_1.getD (Int.toNat r_4) dSpot).2.2.2)
                let out10c1as_8 : List Spot := out10c1as_7.set (Int.toNat r_4) ((out10c1as_7.getD (Int.toNat r_4) dSpot).1, (out10c1as_7.getD (Int.toNat r_4) dSpot).2.1, (out10c1as_7.getD (Int.toNat r_4) dSpot).2.2.1, IntKind.i64.wrap ((out10c1as_7.getD (Int.toNat r_4) dSpot).2.2.2.1 - moved), (out10c1as_7.getD (Int.toNat r_4) dSpot).2.2.2.2)
                bif w12c1 == 2 then
                  (bif done then
                    (let out10c1as_9 : List Spot := out10c1as_8.set (Int.toNat r_4) ((out10c1as_8.getD (Int.toNat r_4) dSpot).1, (out10c1as_8.getD (Int.toNat r_4) dSpot).2.1, (out10c1as_8.getD (Int.toNat r_4) dSpot).2.2.1, (out10c1as_8.getD (Int.toNat r_4) dSpot).2.2.2.1, [])
                    next (IntKind.i64.wrap (t75 + 1)) out10c1as_9)
                  else
                    (next (IntKind.i64.wrap (t75 + 1)) out10c1as_8))
                else
                  (next (IntKind.i64.wrap (t75 + 1)) out10c1as_8))
              else
                (bif (List.getD w12c3 (Int.toNat t75) dUse).2.1 == 2 then
                  (let out10c1as_10 : List Spot := out10c1a_1.set (Int.toNat r_4) ((out10c1a_1.getD (Int.toNat r_4) dSpot).1, (out10c1a_1.getD (Int.toNat r_4) dSpot).2.1, IntKind.i64.wrap ((out10c1a_1.getD (Int.toNat r_4) dSpot).2.2.1 + moved), (out10c1a_1.getD (Int.toNat r_4) dSpot).2.2.2)
                  let out10c1as_11 : List Spot := out10c1as_10.set (Int.toNat r_4) ((out10c1as_10.getD (Int.toNat r_4) dSpot).1, (out10c1as_10.getD (Int.toNat r_4) dSpot).2.1, (out10c1as_10.getD (Int.toNat r_4) dSpot).2.2.1, IntKind.i64.wrap ((out10c1as_10.getD (Int.toNat r_4) dSpot).2.2.2.1 - IntKind.i64.wrap ((List.getD w12c3 (Int.toNat t75) dUse).2.2 - moved)), (out10c1as_10.getD (Int.toNat r_4) dSpot).2.2.2.2)
                  bif w12c1 == 2 then
                    (bif done then
                      (let out10c1as_12 : List Spot := out10c1as_11.set (Int.toNat r_4) ((out10c1as_11.getD (Int.toNat r_4) dSpot).1, (out10c1as_11.getD (Int.toNat r_4) dSpot).2.1, (out10c1as_11.getD (Int.toNat r_4) dSpot).2.2.1, (out10c1as_11.getD (Int.toNat r_4) dSpot).2.2.2.1, [])
                      next (IntKind.i64.wrap (t75 + 1)) out10c1as_12)
                    else
                      (next (IntKind.i64.wrap (t75 + 1)) out10c1as_11))
                  else
                    (next (IntKind.i64.wrap (t75 + 1)) out10c1as_11))
                else
                  (bif w12c1 == 2 then
                    (bif done then
                      (let out10c1as_13 : List Spot := out10c1a_1.set (Int.toNat r_4) ((out10c1a_1.getD (Int.toNat r_4) dSpot).1, (out10c1a_1.getD (Int.toNat r_4) dSpot).2.1, (out10c1a_1.getD (Int.toNat r_4) dSpot).2.2.1, (out10c1a_1.getD (Int.toNat r_4) dSpot).2.2.2.1, [])
                      next (IntKind.i64.wrap (t75 + 1)) out10c1as_13)
                    else
                      (next (IntKind.i64.wrap (t75 + 1)) out10c1a_1))
                  else
                    (next (IntKind.i64.wrap (t75 + 1)) out10c1a_1)))) else none) else none) else none) else none)
    else
      (some ((r_1.1, out10c1a_1, r_1.2.2.1, out10c3a_1, r_1.2.2.2.2), 0))
def impl_ClaimOver_2 (N : Nat) (moved : Int) (done : Bool) (r_1 : Book) (t8c4 : Int) (w12c0 : Int) (w12c1 : Int) (w12c2 : List Txt) (w12c3 : List Use) (w12c4 : List Txt) (w12c5 : List Txt) (t74 : Int) (t8c0a : List Foe) (t8c1a : List Spot) (t8c2a : List Txt) (t8c3a : List Part) (out10c3a_1 : List Part) : Nat → Int → (List Spot) → Option (Book × Int) := lp (fun _ _ => none) fun next => impl_ClaimOver_2r N moved done r_1 t8c4 w12c0 w12c1 w12c2 w12c3 w12c4 w12c5 t74 t8c0a t8c1a t8c2a t8c3a out10c3a_1 next
def impl_ClaimOver_0r (N : Nat) (I0 : Int → Bool → Book → Int → Int → Int → (List Txt) → (List Use) → (List Txt) → (List Txt) → Int → (List Foe) → (List Spot) → (List Txt) → (List Part) → (List Part) → Nat → Int → (List Spot) → Option (Book × Int)) (b : Book) (moved : Int) (done : Bool) (r_1 : Book) (r_2 : Int) (t40 : List Use) (t41 : Int) (t8c4 : Int) (w12c0 : Int) (w12c1 : Int) (w12c2 : List Txt) (w12c3 : List Use) (w12c4 : List Txt) (w12c5 : List Txt) (next : Int → Option (Book × Int)) : Int → Option (Book × Int) := fun t42 =>
    bif decide (t42 < t41) then
      (bif decide (0 ≤ t42) then
        (bif decide (t42 < (↑(List.length t40) : Int)) then
          (bif (List.getD t40 (Int.toNat t42) dUse).2.1 != 3 then
            (bif decide (moved > (List.getD t40 (Int.toNat t42) dUse).2.2) then
              (some (r_1, 2))
            else
              (next (IntKind.i64.wrap (t42 + 1))))
          else
            (next (IntKind.i64.wrap (t42 + 1)))) else none) else none)
    else
      (bif decide (0 ≤ r_2) then
        (bif decide (r_2 < (↑(List.length b.2.2.2.1) : Int)) then
          (bif !(List.getD b.2.2.2.1 (Int.toNat r_2) dPart).2 then
            (some (r_1, 12))
          else
            (bif decide (0 ≤ r_2) then
              (bif decide (r_2 < (↑(List.length r_1.2.2.2.1) : Int)) then
                (bif decide (IntKind.i64.wrap (r_2 + 1) = r_2 + 1) then
                  (I0 moved done r_1 t8c4 w12c0 w12c1 w12c2 w12c3 w12c4 w12c5 (↑(List.length w12c3) : Int) [] [] [] [] (List.eraseIdx r_1.2.2.2.1 (Int.toNat r_2)) N 0 r_1.2.1) else none) else none) else none)) else none) else none)
def impl_ClaimOver_0 (N : Nat) (b : Book) (moved : Int) (done : Bool) (r_1 : Book) (r_2 : Int) (t40 : List Use) (t41 : Int) (t8c4 : Int) (w12c0 : Int) (w12c1 : Int) (w12c2 : List Txt) (w12c3 : List Use) (w12c4 : List Txt) (w12c5 : List Txt) : Nat → Int → Option (Book × Int) := lp (fun _ => none) fun next => impl_ClaimOver_0r N (impl_ClaimOver_2 N) b moved done r_1 r_2 t40 t41 t8c4 w12c0 w12c1 w12c2 w12c3 w12c4 w12c5 next
def impl_ClaimOverb (N : Nat) (I1 : Book → Int → Bool → Book → Int → (List Use) → Int → Int → Int → Int → (List Txt) → (List Use) → (List Txt) → (List Txt) → Nat → Int → Option (Book × Int)) (b : Book) (number : Int) (moved : Int) (done : Bool) : Option (Book × Int) :=
  ob (F.impl_ClaimBookOk N b) false fun r =>
  bif !r then
    (some (([], [], [], [], 0), 1))
  else
    (ob (F.impl_copyBook N b) ([], [], [], [], Int.ofNat 0) fun r_1 =>
    ob (F.impl_ClaimBook_part N b number) (Int.ofNat 0) fun r_2 =>
    bif decide (r_2 < 0) then
      (some (r_1, 3))
    else
      (bif decide (0 ≤ r_2) then
        (bif decide (r_2 < (↑(List.length b.2.2.2.1) : Int)) then
          (bif decide (moved < 0) then
            (some (r_1, 2))
          else
            (I1 b moved done r_1 r_2 ((List.getD b.2.2.2.1 (Int.toNat r_2) dPart).1.2.2.2.1) (↑(List.length (List.getD b.2.2.2.1 (Int.toNat r_2) dPart).1.2.2.2.1) : Int) 0 ((List.getD b.2.2.2.1 (Int.toNat r_2) dPart).1.1) ((List.getD b.2.2.2.1 (Int.toNat r_2) dPart).1.2.1) ((List.getD b.2.2.2.1 (Int.toNat r_2) dPart).1.2.2.1) ((List.getD b.2.2.2.1 (Int.toNat r_2) dPart).1.2.2.2.1) ((List.getD b.2.2.2.1 (Int.toNat r_2) dPart).1.2.2.2.2.1) ((List.getD b.2.2.2.1 (Int.toNat r_2) dPart).1.2.2.2.2.2) N 0)) else none) else none))
def impl_ClaimOver (N : Nat) (b : Book) (number : Int) (moved : Int) (done : Bool) : Option (Book × Int) := impl_ClaimOverb N (impl_ClaimOver_0 N) b number moved done
def laws_eqClaimFoe (N : Nat) (a : Foe) (b : Foe) : Option Bool :=
  bif !a.1 == b.1 then
    (some false)
  else
    (bif !a.2 == b.2 then
      (some false)
    else
      (some true))
def laws_eqClaimFoeS_0r (N : Nat) (a : List Foe) (b : List Foe) (next : Int → Option Bool) : Int → Option Bool := fun i5 =>
    bif decide (i5 < (↑a.length : Int)) then
      (bif decide (0 ≤ i5) then
        (bif decide (i5 < (↑a.length : Int)) then
          (bif decide (0 ≤ i5) then
            (bif decide (i5 < (↑b.length : Int)) then
              (ob (F.laws_eqClaimFoe N (a.getD (Int.toNat i5) dFoe) (b.getD (Int.toNat i5) dFoe)) false fun r =>
              bif !r then
                (some false)
              else
                (next (IntKind.i64.wrap (i5 + 1)))) else none) else none) else none) else none)
    else
      (some true)
def laws_eqClaimFoeS_0 (N : Nat) (a : List Foe) (b : List Foe) : Nat → Int → Option Bool := lp (fun _ => none) fun next => laws_eqClaimFoeS_0r N a b next
def laws_eqClaimFoeSb (N : Nat) (I0 : (List Foe) → (List Foe) → Nat → Int → Option Bool) (a : List Foe) (b : List Foe) : Option Bool :=
  bif (↑a.length : Int) != (↑b.length : Int) then
    (some false)
  else
    (I0 a b N 0)
def laws_eqClaimFoeS (N : Nat) (a : List Foe) (b : List Foe) : Option Bool := laws_eqClaimFoeSb N (laws_eqClaimFoeS_0 N) a b
def laws_eqStringS_0r (N : Nat) (a : List Txt) (b : List Txt) (next : Int → Option Bool) : Int → Option Bool := fun i5 =>
    bif decide (i5 < (↑a.length : Int)) then
      (bif decide (0 ≤ i5) then
        (bif decide (i5 < (↑a.length : Int)) then
          (bif decide (0 ≤ i5) then
            (bif decide (i5 < (↑b.length : Int)) then
              (bif !a.getD (Int.toNat i5) [] == b.getD (Int.toNat i5) [] then
                (some false)
              else
                (next (IntKind.i64.wrap (i5 + 1)))) else none) else none) else none) else none)
    else
      (some true)
def laws_eqStringS_0 (N : Nat) (a : List Txt) (b : List Txt) : Nat → Int → Option Bool := lp (fun _ => none) fun next => laws_eqStringS_0r N a b next
def laws_eqStringSb (N : Nat) (I0 : (List Txt) → (List Txt) → Nat → Int → Option Bool) (a : List Txt) (b : List Txt) : Option Bool :=
  bif (↑a.length : Int) != (↑b.length : Int) then
    (some false)
  else
    (I0 a b N 0)
def laws_eqStringS (N : Nat) (a : List Txt) (b : List Txt) : Option Bool := laws_eqStringSb N (laws_eqStringS_0 N) a b
def laws_eqClaimSpot (N : Nat) (a : Spot) (b : Spot) : Option Bool :=
  bif !a.1 == b.1 then
    (some false)
  else
    (bif a.2.1 != b.2.1 then
      (some false)
    else
      (bif a.2.2.1 != b.2.2.1 then
        (some false)
      else
        (bif a.2.2.2.1 != b.2.2.2.1 then
          (some false)
        else
          (ob (F.laws_eqStringS N a.2.2.2.2 b.2.2.2.2) false fun r =>
          bif !r then
            (some false)
          else
            (some true)))))
def laws_eqClaimSpotS_0r (N : Nat) (a : List Spot) (b : List Spot) (next : Int → Option Bool) : Int → Option Bool := fun i5 =>
    bif decide (i5 < (↑a.length : Int)) then
      (bif decide (0 ≤ i5) then
        (bif decide (i5 < (↑a.length : Int)) then
          (bif decide (0 ≤ i5) then
            (bif decide (i5 < (↑b.length : Int)) then
              (ob (F.laws_eqClaimSpot N (a.getD (Int.toNat i5) dSpot) (b.getD (Int.toNat i5) dSpot)) false fun r =>
              bif !r then
                (some false)
              else
                (next (IntKind.i64.wrap (i5 + 1)))) else none) else none) else none) else none)
    else
      (some true)
def laws_eqClaimSpotS_0 (N : Nat) (a : List Spot) (b : List Spot) : Nat → Int → Option Bool := lp (fun _ => none) fun next => laws_eqClaimSpotS_0r N a b next
def laws_eqClaimSpotSb (N : Nat) (I0 : (List Spot) → (List Spot) → Nat → Int → Option Bool) (a : List Spot) (b : List Spot) : Option Bool :=
  bif (↑a.length : Int) != (↑b.length : Int) then
    (some false)
  else
    (I0 a b N 0)
def laws_eqClaimSpotS (N : Nat) (a : List Spot) (b : List Spot) : Option Bool := laws_eqClaimSpotSb N (laws_eqClaimSpotS_0 N) a b
def laws_eqClaimUse (N : Nat) (a : Use) (b : Use) : Option Bool :=
  bif !a.1 == b.1 then
    (some false)
  else
    (bif a.2.1 != b.2.1 then
      (some false)
    else
      (bif a.2.2 != b.2.2 then
        (some false)
      else
        (some true)))
def laws_eqClaimUseS_0r (N : Nat) (a : List Use) (b : List Use) (next : Int → Option Bool) : Int → Option Bool := fun i5 =>
    bif decide (i5 < (↑a.length : Int)) then
      (bif decide (0 ≤ i5) then
        (bif decide (i5 < (↑a.length : Int)) then
          (bif decide (0 ≤ i5) then
            (bif decide (i5 < (↑b.length : Int)) then
              (ob (F.laws_eqClaimUse N (a.getD (Int.toNat i5) dUse) (b.getD (Int.toNat i5) dUse)) false fun r =>
              bif !r then
                (some false)
              else
                (next (IntKind.i64.wrap (i5 + 1)))) else none) else none) else none) else none)
    else
      (some true)
def laws_eqClaimUseS_0 (N : Nat) (a : List Use) (b : List Use) : Nat → Int → Option Bool := lp (fun _ => none) fun next => laws_eqClaimUseS_0r N a b next
def laws_eqClaimUseSb (N : Nat) (I0 : (List Use) → (List Use) → Nat → Int → Option Bool) (a : List Use) (b : List Use) : Option Bool :=
  bif (↑a.length : Int) != (↑b.length : Int) then
    (some false)
  else
    (I0 a b N 0)
def laws_eqClaimUseS (N : Nat) (a : List Use) (b : List Use) : Option Bool := laws_eqClaimUseSb N (laws_eqClaimUseS_0 N) a b
def laws_eqClaimWant (N : Nat) (a : Want) (b : Want) : Option Bool :=
  bif a.1 != b.1 then
    (some false)
  else
    (bif a.2.1 != b.2.1 then
      (some false)
    else
      (ob (F.laws_eqStringS N a.2.2.1 b.2.2.1) false fun r =>
      bif !r then
        (some false)
      else
        (ob (F.laws_eqClaimUseS N a.2.2.2.1 b.2.2.2.1) false fun r_1 =>
        bif !r_1 then
          (some false)
        else
          (ob (F.laws_eqStringS N a.2.2.2.2.1 b.2.2.2.2.1) false fun r_2 =>
          bif !r_2 then
            (some false)
          else
            (ob (F.laws_eqStringS N a.2.2.2.2.2 b.2.2.2.2.2) false fun r_3 =>
            bif !r_3 then
              (some false)
            else
              (some true))))))
def laws_eqClaimPart (N : Nat) (a : Part) (b : Part) : Option Bool :=
  ob (F.laws_eqClaimWant N a.1 b.1) false fun r =>
  bif !r then
    (some false)
  else
    (bif !a.2 == b.2 then
      (some false)
    else
      (some true))
def laws_eqClaimPartS_0r (N : Nat) (a : List Part) (b : List Part) (next : Int → Option Bool) : Int → Option Bool := fun i5 =>
    bif decide (i5 < (↑a.length : Int)) then
      (bif decide (0 ≤ i5) then
        (bif decide (i5 < (↑a.length : Int)) then
          (bif decide (0 ≤ i5) then
            (bif decide (i5 < (↑b.length : Int)) then
              (ob (F.laws_eqClaimPart N (a.getD (Int.toNat i5) dPart) (b.getD (Int.toNat i5) dPart)) false fun r =>
              bif !r then
                (some false)
              else
                (next (IntKind.i64.wrap (i5 + 1)))) else none) else none) else none) else none)
    else
      (some true)
def laws_eqClaimPartS_0 (N : Nat) (a : List Part) (b : List Part) : Nat → Int → Option Bool := lp (fun _ => none) fun next => laws_eqClaimPartS_0r N a b next
def laws_eqClaimPartSb (N : Nat) (I0 : (List Part) → (List Part) → Nat → Int → Option Bool) (a : List Part) (b : List Part) : Option Bool :=
  bif (↑a.length : Int) != (↑b.length : Int) then
    (some false)
  else
    (I0 a b N 0)
def laws_eqClaimPartS (N : Nat) (a : List Part) (b : List Part) : Option Bool := laws_eqClaimPartSb N (laws_eqClaimPartS_0 N) a b
def laws_eqClaimBook (N : Nat) (a : Book) (b : Book) : Option Bool :=
  ob (F.laws_eqClaimFoeS N a.1 b.1) false fun r =>
  bif !r then
    (some false)
  else
    (ob (F.laws_eqClaimSpotS N a.2.1 b.2.1) false fun r_1 =>
    bif !r_1 then
      (some false)
    else
      (ob (F.laws_eqStringS N a.2.2.1 b.2.2.1) false fun r_2 =>
      bif !r_2 then
        (some false)
      else
        (ob (F.laws_eqClaimPartS N a.2.2.2.1 b.2.2.2.1) false fun r_3 =>
        bif !r_3 then
          (some false)
        else
          (bif a.2.2.2.2 != b.2.2.2.2 then
            (some false)
          else
            (some true)))))
def laws_markText_0r (N : Nat) (next : Int → Txt → Option Txt) : Int → Txt → Option Txt := fun k0_1 out3 =>
    bif decide (k0_1 > 0) then
      (bif decide ((List.map byteOf [IntKind.u8.wrap (IntKind.i64.wrap (48 + Int.tmod k0_1 10))]).length + List.length out3 ≤ lim) then
        (next (IntKind.i64.wrap (Int.tdiv k0_1 10)) (List.map byteOf [IntKind.u8.wrap (IntKind.i64.wrap (48 + Int.tmod k0_1 10))] ++ out3)) else none)
    else
      (bif decide ([109].length + List.length out3 ≤ lim) then
        (some ([109] ++ out3)) else none)
def laws_markText_0 (N : Nat) : Nat → Int → Txt → Option Txt := lp (fun _ _ => none) fun next => laws_markText_0r N next
def laws_markTextb (N : Nat) (I0 : Nat → Int → Txt → Option Txt) (k0 : Int) : Option Txt :=
  bif decide (k0 ≤ 0) then
    (some [109, 48])
  else
    (I0 N k0 [])
def laws_markText (N : Nat) (k0 : Int) : Option Txt := laws_markTextb N (laws_markText_0 N) k0
def laws_markClaimFoeS_0r (N : Nat) (next : Int → Int → (List Foe) → Option (Int × List Foe)) : Int → Int → (List Foe) → Option (Int × List Foe) := fun k1 i5 apa =>
    bif decide (i5 < (↑apa.length : Int)) then
      (ob (F.laws_markText N k1) [] fun r_2 =>
      bif decide (0 ≤ i5) then
        (bif decide (i5 < (↑apa.length : Int)) then
          (let apas_2 : List Foe := apa.set (Int.toNat i5) (r_2, (apa.getD (Int.toNat i5) dFoe).2)
          ob (F.laws_markText N (IntKind.i64.wrap (k1 + 1))) [] fun r_3 =>
          bif decide (0 ≤ i5) then
            (bif decide (i5 < (↑apas_2.length : Int)) then
              (let apas_3 : List Foe := apas_2.set (Int.toNat i5) ((apas_2.getD (Int.toNat i5) dFoe).1, r_3)
              next (IntKind.i64.wrap (IntKind.i64.wrap (k1 + 1) + 1)) (IntKind.i64.wrap (i5 + 1)) apas_3) else none) else none) else none) else none)
    else
      (some (k1, apa))
def laws_markClaimFoeS_0 (N : Nat) : Nat → Int → Int → (List Foe) → Option (Int × List Foe) := lp (fun _ _ _ => none) fun next => laws_markClaimFoeS_0r N next
def laws_markClaimFoeSb (N : Nat) (I0 : Nat → Int → Int → (List Foe) → Option (Int × List Foe)) (a : List Foe) (k0 : Int) : Option (Int × List Foe) :=
  I0 N k0 0 a
def laws_markClaimFoeS (N : Nat) (a : List Foe) (k0 : Int) : Option (Int × List Foe) := laws_markClaimFoeSb N (laws_markClaimFoeS_0 N) a k0
def laws_markStringS_0r (N : Nat) (next : Int → Int → (List Txt) → Option (Int × List Txt)) : Int → Int → (List Txt) → Option (Int × List Txt) := fun k1 i5 apa =>
    bif decide (i5 < (↑apa.length : Int)) then
      (ob (F.laws_markText N k1) [] fun r_1 =>
      bif decide (0 ≤ i5) then
        (bif decide (i5 < (↑apa.length : Int)) then
          (let apas_1 : List Txt := apa.set (Int.toNat i5) r_1
          next (IntKind.i64.wrap (k1 + 1)) (IntKind.i64.wrap (i5 + 1)) apas_1) else none) else none)
    else
      (some (k1, apa))
def laws_markStringS_0 (N : Nat) : Nat → Int → Int → (List Txt) → Option (Int × List Txt) := lp (fun _ _ _ => none) fun next => laws_markStringS_0r N next
def laws_markStringSb (N : Nat) (I0 : Nat → Int → Int → (List Txt) → Option (Int × List Txt)) (a : List Txt) (k0 : Int) : Option (Int × List Txt) :=
  I0 N k0 0 a
def laws_markStringS (N : Nat) (a : List Txt) (k0 : Int) : Option (Int × List Txt) := laws_markStringSb N (laws_markStringS_0 N) a k0
def laws_markClaimSpotS_0r (N : Nat) (next : Int → Int → (List Spot) → Option (Int × List Spot)) : Int → Int → (List Spot) → Option (Int × List Spot) := fun k1 i5 apa =>
    bif decide (i5 < (↑apa.length : Int)) then
      (ob (F.laws_markText N k1) [] fun r_2 =>
      bif decide (0 ≤ i5) then
        (bif decide (i5 < (↑apa.length : Int)) then
          (let apas_6 : List Spot := apa.set (Int.toNat i5) (r_2, (apa.getD (Int.toNat i5) dSpot).2)
          bif decide (0 ≤ i5) then
            (bif decide (i5 < (↑apas_6.length : Int)) then
              (let apas_7 : List Spot := apas_6.set (Int.toNat i5) ((apas_6.getD (Int.toNat i5) dSpot).1, IntKind.i64.wrap (k1 + 1), (apas_6.getD (Int.toNat i5) dSpot).2.2)
              bif decide (0 ≤ i5) then
                (bif decide (i5 < (↑apas_7.length : Int)) then
                  (let apas_8 : List Spot := apas_7.set (Int.toNat i5) ((apas_7.getD (Int.toNat i5) dSpot).1, (apas_7.getD (Int.toNat i5) dSpot).2.1, IntKind.i64.wrap (IntKind.i64.wrap (k1 + 1) + 1), (apas_7.getD (Int.toNat i5) dSpot).2.2.2)
                  bif decide (0 ≤ i5) then
                    (bif decide (i5 < (↑apas_8.length : Int)) then
                      (let apas_9 : List Spot := apas_8.set (Int.toNat i5) ((apas_8.getD (Int.toNat i5) dSpot).1, (apas_8.getD (Int.toNat i5) dSpot).2.1, (apas_8.getD (Int.toNat i5) dSpot).2.2.1, IntKind.i64.wrap (IntKind.i64.wrap (IntKind.i64.wrap (k1 + 1) + 1) + 1), (apas_8.getD (Int.toNat i5) dSpot).2.2.2.2)
                      bif decide (0 ≤ i5) then
                        (bif decide (i5 < (↑apas_9.length : Int)) then
                          (let apas_10 : List Spot := apas_9.set (Int.toNat i5) ((apas_9.getD (Int.toNat i5) dSpot).1, (apas_9.getD (Int.toNat i5) dSpot).2.1, (apas_9.getD (Int.toNat i5) dSpot).2.2.1, (apas_9.getD (Int.toNat i5) dSpot).2.2.2.1, [])
                          ob (F.laws_markStringS N (apas_9.getD (Int.toNat i5) dSpot).2.2.2.2 (IntKind.i64.wrap (IntKind.i64.wrap (IntKind.i64.wrap (IntKind.i64.wrap (k1 + 1) + 1) + 1) + 1))) (Int.ofNat 0, []) fun r_3 =>
                          let apas_11 : List Spot := apas_10.set (Int.toNat i5) ((apas_10.getD (Int.toNat i5) dSpot).1, (apas_10.getD (Int.toNat i5) dSpot).2.1, (apas_10.getD (Int.toNat i5) dSpot).2.2.1, (apas_10.getD (Int.toNat i5) dSpot).2.2.2.1, r_3.2)
                          next r_3.1 (IntKind.i64.wrap (i5 + 1)) apas_11) else none) else none) else none) else none) else none) else none) else none) else none) else none) else none)
    else
      (some (k1, apa))
def laws_markClaimSpotS_0 (N : Nat) : Nat → Int → Int → (List Spot) → Option (Int × List Spot) := lp (fun _ _ _ => none) fun next => laws_markClaimSpotS_0r N next
def laws_markClaimSpotSb (N : Nat) (I0 : Nat → Int → Int → (List Spot) → Option (Int × List Spot)) (a : List Spot) (k0 : Int) : Option (Int × List Spot) :=
  I0 N k0 0 a
def laws_markClaimSpotS (N : Nat) (a : List Spot) (k0 : Int) : Option (Int × List Spot) := laws_markClaimSpotSb N (laws_markClaimSpotS_0 N) a k0
def laws_markClaimUseS_0r (N : Nat) (next : Int → Int → (List Use) → Option (Int × List Use)) : Int → Int → (List Use) → Option (Int × List Use) := fun k1 i5 apa =>
    bif decide (i5 < (↑apa.length : Int)) then
      (ob (F.laws_markText N k1) [] fun r_1 =>
      bif decide (0 ≤ i5) then
        (bif decide (i5 < (↑apa.length : Int)) then
          (let apas_3 : List Use := apa.set (Int.toNat i5) (r_1, (apa.getD (Int.toNat i5) dUse).2)
          bif decide (0 ≤ i5) then
            (bif decide (i5 < (↑apas_3.length : Int)) then
              (let apas_4 : List Use := apas_3.set (Int.toNat i5) ((apas_3.getD (Int.toNat i5) dUse).1, IntKind.i64.wrap (k1 + 1), (apas_3.getD (Int.toNat i5) dUse).2.2)
              bif decide (0 ≤ i5) then
                (bif decide (i5 < (↑apas_4.length : Int)) then
                  (let apas_5 : List Use := apas_4.set (Int.toNat i5) ((apas_4.getD (Int.toNat i5) dUse).1, (apas_4.getD (Int.toNat i5) dUse).2.1, IntKind.i64.wrap (IntKind.i64.wrap (k1 + 1) + 1))
                  next (IntKind.i64.wrap (IntKind.i64.wrap (IntKind.i64.wrap (k1 + 1) + 1) + 1)) (IntKind.i64.wrap (i5 + 1)) apas_5) else none) else none) else none) else none) else none) else none)
    else
      (some (k1, apa))
def laws_markClaimUseS_0 (N : Nat) : Nat → Int → Int → (List Use) → Option (Int × List Use) := lp (fun _ _ _ => none) fun next => laws_markClaimUseS_0r N next
def laws_markClaimUseSb (N : Nat) (I0 : Nat → Int → Int → (List Use) → Option (Int × List Use)) (a : List Use) (k0 : Int) : Option (Int × List Use) :=
  I0 N k0 0 a
def laws_markClaimUseS (N : Nat) (a : List Use) (k0 : Int) : Option (Int × List Use) := laws_markClaimUseSb N (laws_markClaimUseS_0 N) a k0
def laws_markClaimPartS_0r (N : Nat) (next : Int → Int → (List Part) → Option (Int × List Part)) : Int → Int → (List Part) → Option (Int × List Part) := fun k1 i5 apa =>
    bif decide (i5 < (↑apa.length : Int)) then
      (bif decide (0 ≤ i5) then
        (bif decide (i5 < (↑apa.length : Int)) then
          (let apas_11 : List Part := apa.set (Int.toNat i5) ((k1, (apa.getD (Int.toNat i5) dPart).1.2), (apa.getD (Int.toNat i5) dPart).2)
          bif decide (0 ≤ i5) then
            (bif decide (i5 < (↑apas_11.length : Int)) then
              (let apas_12 : List Part := apas_11.set (Int.toNat i5) (((apas_11.getD (Int.toNat i5) dPart).1.1, IntKind.i64.wrap (k1 + 1), (apas_11.getD (Int.toNat i5) dPart).1.2.2), (apas_11.getD (Int.toNat i5) dPart).2)
              bif decide (0 ≤ i5) then
                (bif decide (i5 < (↑apas_12.length : Int)) then
                  (let apas_13 : List Part := apas_12.set (Int.toNat i5) (((apas_12.getD (Int.toNat i5) dPart).1.1, (apas_12.getD (Int.toNat i5) dPart).1.2.1, [], (apas_12.getD (Int.toNat i5) dPart).1.2.2.2), (apas_12.getD (Int.toNat i5) dPart).2)
                  ob (F.laws_markStringS N (apas_12.getD (Int.toNat i5) dPart).1.2.2.1 (IntKind.i64.wrap (IntKind.i64.wrap (k1 + 1) + 1))) (Int.ofNat 0, []) fun r_4 =>
                  let apas_14 : List Part := apas_13.set (Int.toNat i5) (((apas_13.getD (Int.toNat i5) dPart).1.1, (apas_13.getD (Int.toNat i5) dPart).1.2.1, r_4.2, (apas_13.getD (Int.toNat i5) dPart).1.2.2.2), (apas_13.getD (Int.toNat i5) dPart).2)
                  bif decide (0 ≤ i5) then
                    (bif decide (i5 < (↑apas_14.length : Int)) then
                      (let apas_15 : List Part := apas_14.set (Int.toNat i5) (((apas_14.getD (Int.toNat i5) dPart).1.1, (apas_14.getD (Int.toNat i5) dPart).1.2.1, (apas_14.getD (Int.toNat i5) dPart).1.2.2.1, [], (apas_14.getD (Int.toNat i5) dPart).1.2.2.2.2), (apas_14.getD (Int.toNat i5) dPart).2)
                      ob (F.laws_markClaimUseS N (apas_14.getD (Int.toNat i5) dPart).1.2.2.2.1 r_4.1) (Int.ofNat 0, []) fun r_5 =>
                      let apas_16 : List Part := apas_15.set (Int.toNat i5) (((apas_15.getD (Int.toNat i5) dPart).1.1, (apas_15.getD (Int.toNat i5) dPart).1.2.1, (apas_15.getD (Int.toNat i5) dPart).1.2.2.1, r_5.2, (apas_15.getD (Int.toNat i5) dPart).1.2.2.2.2), (apas_15.getD (Int.toNat i5) dPart).2)
                      bif decide (0 ≤ i5) then
                        (bif decide (i5 < (↑apas_16.length : Int)) then
                          (let apas_17 : List Part := apas_16.set (Int.toNat i5) (((apas_16.getD (Int.toNat i5) dPart).1.1, (apas_16.getD (Int.toNat i5) dPart).1.2.1, (apas_16.getD (Int.toNat i5) dPart).1.2.2.1, (apas_16.getD (Int.toNat i5) dPart).1.2.2.2.1, [], (apas_16.getD (Int.toNat i5) dPart).1.2.2.2.2.2), (apas_16.getD (Int.toNat i5) dPart).2)
                          ob (F.laws_markStringS N (apas_16.getD (Int.toNat i5) dPart).1.2.2.2.2.1 r_5.1) (Int.ofNat 0, []) fun r_6 =>
                          let apas_18 : List Part := apas_17.set (Int.toNat i5) (((apas_17.getD (Int.toNat i5) dPart).1.1, (apas_17.getD (Int.toNat i5) dPart).1.2.1, (apas_17.getD (Int.toNat i5) dPart).1.2.2.1, (apas_17.getD (Int.toNat i5) dPart).1.2.2.2.1, r_6.2, (apas_17.getD (Int.toNat i5) dPart).1.2.2.2.2.2), (apas_17.getD (Int.toNat i5) dPart).2)
                          bif decide (0 ≤ i5) then
                            (bif decide (i5 < (↑apas_18.length : Int)) then
                              (let apas_19 : List Part := apas_18.set (Int.toNat i5) (((apas_18.getD (Int.toNat i5) dPart).1.1, (apas_18.getD (Int.toNat i5) dPart).1.2.1, (apas_18.getD (Int.toNat i5) dPart).1.2.2.1, (apas_18.getD (Int.toNat i5) dPart).1.2.2.2.1, (apas_18.getD (Int.toNat i5) dPart).1.2.2.2.2.1, []), (apas_18.getD (Int.toNat i5) dPart).2)
                              ob (F.laws_markStringS N (apas_18.getD (Int.toNat i5) dPart).1.2.2.2.2.2 r_6.1) (Int.ofNat 0, []) fun r_7 =>
                              let apas_20 : List Part := apas_19.set (Int.toNat i5) (((apas_19.getD (Int.toNat i5) dPart).1.1, (apas_19.getD (Int.toNat i5) dPart).1.2.1, (apas_19.getD (Int.toNat i5) dPart).1.2.2.1, (apas_19.getD (Int.toNat i5) dPart).1.2.2.2.1, (apas_19.getD (Int.toNat i5) dPart).1.2.2.2.2.1, r_7.2), (apas_19.getD (Int.toNat i5) dPart).2)
                              bif decide (0 ≤ i5) then
                                (bif decide (i5 < (↑apas_20.length : Int)) then
                                  (let apas_21 : List Part := apas_20.set (Int.toNat i5) ((apas_20.getD (Int.toNat i5) dPart).1, Int.tmod r_7.1 3 == 0)
                                  next (IntKind.i64.wrap (r_7.1 + 1)) (IntKind.i64.wrap (i5 + 1)) apas_21) else none) else none) else none) else none) else none) else none) else none) else none) else none) else none) else none) else none) else none) else none)
    else
      (some (k1, apa))
def laws_markClaimPartS_0 (N : Nat) : Nat → Int → Int → (List Part) → Option (Int × List Part) := lp (fun _ _ _ => none) fun next => laws_markClaimPartS_0r N next
def laws_markClaimPartSb (N : Nat) (I0 : Nat → Int → Int → (List Part) → Option (Int × List Part)) (a : List Part) (k0 : Int) : Option (Int × List Part) :=
  I0 N k0 0 a
def laws_markClaimPartS (N : Nat) (a : List Part) (k0 : Int) : Option (Int × List Part) := laws_markClaimPartSb N (laws_markClaimPartS_0 N) a k0
def laws_markClaimBook (N : Nat) (a0 : List Foe) (a1 : List Spot) (a2 : List Txt) (a3 : List Part) (a4 : Int) (k0 : Int) : Option (Int × List Foe × List Spot × List Txt × List Part) :=
  ob (F.laws_markClaimFoeS N a0 k0) (Int.ofNat 0, []) fun r =>
  ob (F.laws_markClaimSpotS N a1 r.1) (Int.ofNat 0, []) fun r_1 =>
  ob (F.laws_markStringS N a2 r_1.1) (Int.ofNat 0, []) fun r_2 =>
  ob (F.laws_markClaimPartS N a3 r_2.1) (Int.ofNat 0, []) fun r_3 =>
  some (r_3.1, r.2, r_1.2, r_2.2, r_3.2)
def laws_heldClaimFoeS_0r (N : Nat) (a : List Foe) (next : Int → Int → Option Int) : Int → Int → Option Int := fun k1 i5 =>
    bif decide (i5 < (↑a.length : Int)) then
      (bif decide (0 ≤ i5) then
        (bif decide (i5 < (↑a.length : Int)) then
          (ob (F.laws_markText N k1) [] fun r_2 =>
          bif !(a.getD (Int.toNat i5) dFoe).1 == r_2 then
            (some (-1))
          else
            (bif decide (0 ≤ i5) then
              (bif decide (i5 < (↑a.length : Int)) then
                (ob (F.laws_markText N (IntKind.i64.wrap (k1 + 1))) [] fun r_3 =>
                bif !(a.getD (Int.toNat i5) dFoe).2 == r_3 then
                  (some (-1))
                else
                  (next (IntKind.i64.wrap (IntKind.i64.wrap (k1 + 1) + 1)) (IntKind.i64.wrap (i5 + 1)))) else none) else none)) else none) else none)
    else
      (some k1)
def laws_heldClaimFoeS_0 (N : Nat) (a : List Foe) : Nat → Int → Int → Option Int := lp (fun _ _ => none) fun next => laws_heldClaimFoeS_0r N a next
def laws_heldClaimFoeSb (N : Nat) (I0 : (List Foe) → Nat → Int → Int → Option Int) (a : List Foe) (k0 : Int) : Option Int :=
  I0 a N k0 0
def laws_heldClaimFoeS (N : Nat) (a : List Foe) (k0 : Int) : Option Int := laws_heldClaimFoeSb N (laws_heldClaimFoeS_0 N) a k0
def laws_heldStringS_0r (N : Nat) (a : List Txt) (next : Int → Int → Option Int) : Int → Int → Option Int := fun k1 i5 =>
    bif decide (i5 < (↑a.length : Int)) then
      (bif decide (0 ≤ i5) then
        (bif decide (i5 < (↑a.length : Int)) then
          (ob (F.laws_markText N k1) [] fun r_1 =>
          bif !a.getD (Int.toNat i5) [] == r_1 then
            (some (-1))
          else
            (next (IntKind.i64.wrap (k1 + 1)) (IntKind.i64.wrap (i5 + 1)))) else none) else none)
    else
      (some k1)
def laws_heldStringS_0 (N : Nat) (a : List Txt) : Nat → Int → Int → Option Int := lp (fun _ _ => none) fun next => laws_heldStringS_0r N a next
def laws_heldStringSb (N : Nat) (I0 : (List Txt) → Nat → Int → Int → Option Int) (a : List Txt) (k0 : Int) : Option Int :=
  I0 a N k0 0
def laws_heldStringS (N : Nat) (a : List Txt) (k0 : Int) : Option Int := laws_heldStringSb N (laws_heldStringS_0 N) a k0
def laws_heldClaimSpotS_0r (N : Nat) (a : List Spot) (next : Int → Int → Option Int) : Int → Int → Option Int := fun k1 i5 =>
    bif decide (i5 < (↑a.length : Int)) then
      (bif decide (0 ≤ i5) then
        (bif decide (i5 < (↑a.length : Int)) then
          (ob (F.laws_markText N k1) [] fun r_2 =>
          bif !(a.getD (Int.toNat i5) dSpot).1 == r_2 then
            (some (-1))
          else
            (bif decide (0 ≤ i5) then
              (bif decide (i5 < (↑a.length : Int)) then
                (bif (a.getD (Int.toNat i5) dSpot).2.1 != IntKind.i64.wrap (k1 + 1) then
                  (some (-1))
                else
                  (bif decide (0 ≤ i5) then
                    (bif decide (i5 < (↑a.length : Int)) then
                      (bif (a.getD (Int.toNat i5) dSpot).2.2.1 != IntKind.i64.wrap (IntKind.i64.wrap (k1 + 1) + 1) then
                        (some (-1))
                      else
                        (bif decide (0 ≤ i5) then
                          (bif decide (i5 < (↑a.length : Int)) then
                            (bif (a.getD (Int.toNat i5) dSpot).2.2.2.1 != IntKind.i64.wrap (IntKind.i64.wrap (IntKind.i64.wrap (k1 + 1) + 1) + 1) then
                              (some (-1))
                            else
                              (bif decide (0 ≤ i5) then
                                (bif decide (i5 < (↑a.length : Int)) then
                                  (ob (F.laws_heldStringS N (a.getD (Int.toNat i5) dSpot).2.2.2.2 (IntKind.i64.wrap (IntKind.i64.wrap (IntKind.i64.wrap (IntKind.i64.wrap (k1 + 1) + 1) + 1) + 1))) (Int.ofNat 0) fun r_3 =>
                                  bif decide (r_3 < 0) then
                                    (some (-1))
                                  else
                                    (next r_3 (IntKind.i64.wrap (i5 + 1)))) else none) else none)) else none) else none)) else none) else none)) else none) else none)) else none) else none)
    else
      (some k1)
def laws_heldClaimSpotS_0 (N : Nat) (a : List Spot) : Nat → Int → Int → Option Int := lp (fun _ _ => none) fun next => laws_heldClaimSpotS_0r N a next
def laws_heldClaimSpotSb (N : Nat) (I0 : (List Spot) → Nat → Int → Int → Option Int) (a : List Spot) (k0 : Int) : Option Int :=
  I0 a N k0 0
def laws_heldClaimSpotS (N : Nat) (a : List Spot) (k0 : Int) : Option Int := laws_heldClaimSpotSb N (laws_heldClaimSpotS_0 N) a k0
def laws_heldClaimUseS_0r (N : Nat) (a : List Use) (next : Int → Int → Option Int) : Int → Int → Option Int := fun k1 i5 =>
    bif decide (i5 < (↑a.length : Int)) then
      (bif decide (0 ≤ i5) then
        (bif decide (i5 < (↑a.length : Int)) then
          (ob (F.laws_markText N k1) [] fun r_1 =>
          bif !(a.getD (Int.toNat i5) dUse).1 == r_1 then
            (some (-1))
          else
            (bif decide (0 ≤ i5) then
              (bif decide (i5 < (↑a.length : Int)) then
                (bif (a.getD (Int.toNat i5) dUse).2.1 != IntKind.i64.wrap (k1 + 1) then
                  (some (-1))
                else
                  (bif decide (0 ≤ i5) then
                    (bif decide (i5 < (↑a.length : Int)) then
                      (bif (a.getD (Int.toNat i5) dUse).2.2 != IntKind.i64.wrap (IntKind.i64.wrap (k1 + 1) + 1) then
                        (some (-1))
                      else
                        (next (IntKind.i64.wrap (IntKind.i64.wrap (IntKind.i64.wrap (k1 + 1) + 1) + 1)) (IntKind.i64.wrap (i5 + 1)))) else none) else none)) else none) else none)) else none) else none)
    else
      (some k1)
def laws_heldClaimUseS_0 (N : Nat) (a : List Use) : Nat → Int → Int → Option Int := lp (fun _ _ => none) fun next => laws_heldClaimUseS_0r N a next
def laws_heldClaimUseSb (N : Nat) (I0 : (List Use) → Nat → Int → Int → Option Int) (a : List Use) (k0 : Int) : Option Int :=
  I0 a N k0 0
def laws_heldClaimUseS (N : Nat) (a : List Use) (k0 : Int) : Option Int := laws_heldClaimUseSb N (laws_heldClaimUseS_0 N) a k0
def laws_heldClaimPartS_0r (N : Nat) (a : List Part) (next : Int → Int → Option Int) : Int → Int → Option Int := fun k1 i5 =>
    bif decide (i5 < (↑a.length : Int)) then
      (bif decide (0 ≤ i5) then
        (bif decide (i5 < (↑a.length : Int)) then
          (bif (a.getD (Int.toNat i5) dPart).1.1 != k1 then
            (some (-1))
          else
            (bif decide (0 ≤ i5) then
              (bif decide (i5 < (↑a.length : Int)) then
                (bif (a.getD (Int.toNat i5) dPart).1.2.1 != IntKind.i64.wrap (k1 + 1) then
                  (some (-1))
                else
                  (bif decide (0 ≤ i5) then
                    (bif decide (i5 < (↑a.length : Int)) then
                      (ob (F.laws_heldStringS N (a.getD (Int.toNat i5) dPart).1.2.2.1 (IntKind.i64.wrap (IntKind.i64.wrap (k1 + 1) + 1))) (Int.ofNat 0) fun r_4 =>
                      bif decide (r_4 < 0) then
                        (some (-1))
                      else
                        (bif decide (0 ≤ i5) then
                          (bif decide (i5 < (↑a.length : Int)) then
                            (ob (F.laws_heldClaimUseS N (a.getD (Int.toNat i5) dPart).1.2.2.2.1 r_4) (Int.ofNat 0) fun r_5 =>
                            bif decide (r_5 < 0) then
                              (some (-1))
                            else
                              (bif decide (0 ≤ i5) then
                                (bif decide (i5 < (↑a.length : Int)) then
                                  (ob (F.laws_heldStringS N (a.getD (Int.toNat i5) dPart).1.2.2.2.2.1 r_5) (Int.ofNat 0) fun r_6 =>
                                  bif decide (r_6 < 0) then
                                    (some (-1))
                                  else
                                    (bif decide (0 ≤ i5) then
                                      (bif decide (i5 < (↑a.length : Int)) then
                                        (ob (F.laws_heldStringS N (a.getD (Int.toNat i5) dPart).1.2.2.2.2.2 r_6) (Int.ofNat 0) fun r_7 =>
                                        bif decide (r_7 < 0) then
                                          (some (-1))
                                        else
                                          (bif decide (0 ≤ i5) then
                                            (bif decide (i5 < (↑a.length : Int)) then
                                              (bif !(a.getD (Int.toNat i5) dPart).2 == (Int.tmod r_7 3 == 0) then
                                                (some (-1))
                                              else
                                                (next (IntKind.i64.wrap (r_7 + 1)) (IntKind.i64.wrap (i5 + 1)))) else none) else none)) else none) else none)) else none) else none)) else none) else none)) else none) else none)) else none) else none)) else none) else none)
    else
      (some k1)
def laws_heldClaimPartS_0 (N : Nat) (a : List Part) : Nat → Int → Int → Option Int := lp (fun _ _ => none) fun next => laws_heldClaimPartS_0r N a next
def laws_heldClaimPartSb (N : Nat) (I0 : (List Part) → Nat → Int → Int → Option Int) (a : List Part) (k0 : Int) : Option Int :=
  I0 a N k0 0
def laws_heldClaimPartS (N : Nat) (a : List Part) (k0 : Int) : Option Int := laws_heldClaimPartSb N (laws_heldClaimPartS_0 N) a k0
def laws_heldClaimBook (N : Nat) (a : Book) (k0 : Int) : Option Int :=
  ob (F.laws_heldClaimFoeS N a.1 k0) (Int.ofNat 0) fun r =>
  bif decide (r < 0) then
    (some (-1))
  else
    (ob (F.laws_heldClaimSpotS N a.2.1 r) (Int.ofNat 0) fun r_1 =>
    bif decide (r_1 < 0) then
      (some (-1))
    else
      (ob (F.laws_heldStringS N a.2.2.1 r_1) (Int.ofNat 0) fun r_2 =>
      bif decide (r_2 < 0) then
        (some (-1))
      else
        (ob (F.laws_heldClaimPartS N a.2.2.2.1 r_2) (Int.ofNat 0) fun r_3 =>
        bif decide (r_3 < 0) then
          (some (-1))
        else
          (some r_3))))
def laws_FnExactClaimOver (N : Nat) (aB : Book) (aNumber : Int) (aMoved : Int) (aDone : Bool) : Option Bool :=
  ob (F.laws_szClaimBook N aB 1048576) (Int.ofNat 0) fun r =>
  bif decide (r < 0) then
    (some true)
  else
    (ob (F.laws_toClaimBook N aB) ([], [], [], [], Int.ofNat 0) fun r_1 =>
    ob (F.spec_ClaimOver N r_1 aNumber aMoved aDone) (([], [], [], [], Int.ofNat 0), Int.ofNat 0) fun r_2 =>
    ob (F.laws_toClaimBook N aB) default fun r_3 =>
    ob (F.impl_ClaimOver N r_1 aNumber aMoved aDone) (([], [], [], [], Int.ofNat 0), Int.ofNat 0) fun r_4 =>
    ob (F.laws_eqClaimBook N r_4.1 r_2.1) false fun r_5 =>
    bif !r_5 then
      (some false)
    else
      (bif r_4.2 != r_2.2 then
        (some false)
      else
        (ob (F.laws_toClaimBook N aB) default fun r_6 =>
        ob (F.laws_eqClaimBook N r_1 r_1) false fun r_7 =>
        bif !r_7 then
          (some false)
        else
          (ob (F.laws_markClaimBook N r_1.1 r_1.2.1 r_1.2.2.1 r_1.2.2.2.1 r_1.2.2.2.2 1) (Int.ofNat 0, [], [], [], []) fun r_8 =>
          bif decide (r_8.1 < 0) then
            (some false)
          else
            (ob (F.laws_eqClaimBook N r_4.1 r_2.1) default fun r_9 =>
            bif !r_5 then
              (some false)
            else
              (bif r_4.2 != r_2.2 then
                (some false)
              else
                (ob (F.laws_markClaimBook N r_4.1.1 r_4.1.2.1 r_4.1.2.2.1 r_4.1.2.2.2.1 r_4.1.2.2.2.2 1) (Int.ofNat 0, [], [], [], []) fun r_10 =>
                ob (F.laws_heldClaimBook N (r_10.2.1, r_10.2.2.1, r_10.2.2.2.1, r_10.2.2.2.2, r_4.1.2.2.2.2) 1) (Int.ofNat 0) fun r_11 =>
                bif decide (r_11 < 0) then
                  (some false)
                else
                  (bif r_11 != r_10.1 then
                    (some false)
                  else
                    (ob (F.laws_toClaimBook N aB) default fun r_12 =>
                    ob (F.impl_ClaimOver N r_1 aNumber aMoved aDone) default fun r_13 =>
                    ob (F.laws_eqClaimBook N r_4.1 r_2.1) default fun r_14 =>
                    bif !r_5 then
                      (some false)
                    else
                      (bif r_4.2 != r_2.2 then
                        (some false)
                      else
                        (ob (F.laws_heldClaimBook N (r_10.2.1, r_10.2.2.1, r_10.2.2.2.1, r_10.2.2.2.2, r_4.1.2.2.2.2) 1) default fun r_15 =>
                        bif decide (r_11 < 0) then
                          (some false)
                        else
                          (bif r_11 != r_10.1 then
                            (some false)
                          else
                            (some true)))))))))))))
end
end Go.MC.F


/- Part 3 of the texts of the claim FnMay: an interpreter of the translated code over data, proved sound; the contracts of the functions; the same in plain words. -/
import Derived.Test.YtaihjhaabnfenaaGreatmFnMay2
set_option linter.unusedVariables false
namespace Go.MC.F
noncomputable section
def f_1g (N : Nat) (r : Rdr) (n : Int) : Option (Int × Rdr) :=
 bif decide (n < 1) then
 (some (0, r.1, IntKind.i64.wrap (r.2 + 1)))
 else
 (bif (↑(List.length r.1) : Int) == 0 then
 (some (0, r.1, IntKind.i64.wrap (r.2 + 1)))
 else
 (bif decide (IntKind.i64.wrap (IntKind.i64.wrap (r.2 + 1) - 1) < (↑(List.length r.1) : Int)) then
 (bif decide (0 ≤ IntKind.i64.wrap (IntKind.i64.wrap (r.2 + 1) - 1)) then
 (bif decide (IntKind.i64.wrap (IntKind.i64.wrap (r.2 + 1) - 1) < (↑(List.length r.1) : Int)) then
 (bif !decide (n = 0) then
 (some ((IntKind.i64.wrap (List.getD r.1 (IntKind.i64.wrap (IntKind.i64.wrap (r.2 + 1) - 1)).toNat (Int.ofNat 0))).tmod n, r.1, IntKind.i64.wrap (r.2 + 1))) else none) else none) else none)
 else
 (bif !decide ((↑(List.length r.1) : Int) = 0) then
 (bif decide (0 ≤ (IntKind.i64.wrap (IntKind.i64.wrap (r.2 + 1) - 1)).tmod (↑(List.length r.1) : Int)) then
 (bif decide ((IntKind.i64.wrap (IntKind.i64.wrap (r.2 + 1) - 1)).tmod (↑(List.length r.1) : Int) < (↑(List.length r.1) : Int)) then
 (bif !decide ((↑(List.length r.1) : Int) = 0) then
 (bif decide (0 ≤ (IntKind.i64.wrap (IntKind.i64.wrap (IntKind.i64.wrap (IntKind.i64.wrap (r.2 + 1) - 1) * 7) + 3)).tmod (↑(List.length r.1) : Int)) then
 (bif decide ((IntKind.i64.wrap (IntKind.i64.wrap (IntKind.i64.wrap (IntKind.i64.wrap (r.2 + 1) - 1) * 7) + 3)).tmod (↑(List.length r.1) : Int) < (↑(List.length r.1) : Int)) then
 (bif !decide ((↑(List.length r.1) : Int) = 0) then
 (bif !decide (n = 0) then
 (some ((IntKind.i64.wrap (↑(BitVec.ofInt IntKind.i64.bits (IntKind.i64.wrap (IntKind.i64.wrap (IntKind.i64.wrap (IntKind.i64.wrap (IntKind.i64.wrap (List.getD r.1 ((IntKind.i64.wrap (IntKind.i64.wrap (r.2 + 1) - 1)).tmod (↑(List.length r.1) : Int)).toNat (Int.ofNat 0)) * 131) + IntKind.i64.wrap (IntKind.i64.wrap (List.getD r.1 ((IntKind.i64.wrap (IntKind.i64.wrap (IntKind.i64.wrap (IntKind.i64.wrap (r.2 + 1) - 1) * 7) + 3)).tmod (↑(List.length r.1) : Int)).toNat (Int.ofNat 0)) * 1117)) + IntKind.i64.wrap (IntKind.i64.wrap (IntKind.i64.wrap (r.2 + 1) - 1) * 29)) + IntKind.i64.wrap (IntKind.i64.wrap ((IntKind.i64.wrap (IntKind.i64.wrap (r.2 + 1) - 1)).tdiv (↑(List.length r.1) : Int)) * 53))) ^^^ BitVec.ofInt IntKind.i64.bits (IntKind.i64.wrap ((IntKind.i64.wrap (IntKind.i64.wrap (IntKind.i64.wrap (IntKind.i64.wrap (IntKind.i64.wrap (List.getD r.1 ((IntKind.i64.wrap (IntKind.i64.wrap (r.2 + 1) - 1)).tmod (↑(List.length r.1) : Int)).toNat (Int.ofNat 0)) * 131) + IntKind.i64.wrap (IntKind.i64.wrap (List.getD r.1 ((IntKind.i64.wrap (IntKind.i64.wrap (IntKind.i64.wrap (IntKind.i64.wrap (r.2 + 1) - 1) * 7) + 3)).tmod (↑(List.length r.1) : Int)).toNat (Int.ofNat 0)) * 1117)) + IntKind.i64.wrap (IntKind.i64.wrap (IntKind.i64.wrap (r.2 + 1) - 1) * 29)) + IntKind.i64.wrap (IntKind.i64.wrap ((IntKind.i64.wrap (IntKind.i64.wrap (r.2 + 1) - 1)).tdiv (↑(List.length r.1) : Int)) * 53))).tdiv 64))).toNat : Int)).tmod n, r.1, IntKind.i64.wrap (r.2 + 1))) else none) else none) else none) else none) else none) else none) else none) else none)))
def f_20 (N : Nat) (r : Rdr) (list : List Txt) : Option (Txt × Rdr) :=
 ob (F.f_1g N r (↑list.length : Int)) (Int.ofNat 0, [], Int.ofNat 0) fun r_1 =>
 bif decide (0 ≤ r_1.1) then
 (bif decide (r_1.1 < (↑list.length : Int)) then
 (some (list.getD (Int.toNat r_1.1) [], r_1.2)) else none) else none
def f_2k_2r (N : Nat) (t2c4 : Int) (b3c0 : List Foe) (b3c4 : Int) (b3c1a : List Spot) (valves7a : List Txt) (next : Int → (List Int) → Int → (List Txt) → Option (Book × Rdr)) : Int → (List Int) → Int → (List Txt) → Option (Book × Rdr) := fun i8 rpc0_1 rpc1_1 b3c2a =>
 bif decide (i8 < (↑valves7a.length : Int)) then
 (ob (F.f_1g N (rpc0_1, rpc1_1) 8) (Int.ofNat 0, [], Int.ofNat 0) fun r_7 =>
 bif decide (r_7.1 > 0) then
 (bif decide (0 ≤ i8) then
 (bif decide (i8 < (↑valves7a.length : Int)) then
 (bif decide ((b3c2a.length + 1) * 16 ≤ lim) then
 (next (IntKind.i64.wrap (i8 + 1)) r_7.2.1 r_7.2.2 (b3c2a ++ [valves7a.getD (Int.toNat i8) []])) else none) else none) else none)
 else
 (next (IntKind.i64.wrap (i8 + 1)) r_7.2.1 r_7.2.2 b3c2a))
 else
 (some ((b3c0, b3c1a, b3c2a, [], b3c4), rpc0_1, rpc1_1))
def f_2k_2 (N : Nat) (t2c4 : Int) (b3c0 : List Foe) (b3c4 : Int) (b3c1a : List Spot) (valves7a : List Txt) : Nat → Int → (List Int) → Int → (List Txt) → Option (Book × Rdr) := lp (fun _ _ _ _ => none) fun next => f_2k_2r N t2c4 b3c0 b3c4 b3c1a valves7a next
def f_2k_0r (N : Nat) (I0 : Int → (List Foe) → Int → (List Spot) → (List Txt) → Nat → Int → (List Int) → Int → (List Txt) → Option (Book × Rdr)) (t2c4 : Int) (b3c0 : List Foe) (b3c4 : Int) (names4a : List Txt) (next : Int → (List Int) → Int → (List Spot) → Option (Book × Rdr)) : Int → (List Int) → Int → (List Spot) → Option (Book × Rdr) := fun i5 rpc0 rpc1 b3c1a =>
 bif decide (i5 < (↑names4a.length : Int)) then
 (ob (F.f_1g N (rpc0, rpc1) 8) (Int.ofNat 0, [], Int.ofNat 0) fun r_2 =>
 bif r_2.1 == 0 then
 (next (IntKind.i64.wrap (i5 + 1)) r_2.2.1 r_2.2.2 b3c1a)
 else
 (bif decide (0 ≤ i5) then
 (bif decide (i5 < (↑names4a.length : Int)) then
 (bif decide (i5 > 1) then
 (ob (F.f_1g N r_2.2 40) (Int.ofNat 0, [], Int.ofNat 0) fun r_3 =>
 ob (F.f_1g N r_3.2 (IntKind.i64.wrap (IntKind.i64.wrap (10 + r_3.1) + 1))) (Int.ofNat 0, [], Int.ofNat 0) fun r_4 =>
 ob (F.f_1g N r_4.2 3) (Int.ofNat 0, [], Int.ofNat 0) fun r_5 =>
 bif r_5.1 == 0 then
 (bif decide ((b3c1a.length + 1) * 64 ≤ lim) then
 (next (IntKind.i64.wrap (i5 + 1)) r_5.2.1 r_5.2.2 (b3c1a ++ [(names4a.getD (Int.toNat i5) [], IntKind.i64.wrap (10 + r_3.1), 0, 0, [])])) else none)
 else
 (bif decide (r_4.1 > 0) then
 (ob (F.f_20 N r_5.2 [[97, 108, 101], [109, 97, 108, 116], [119, 97, 116, 101, 114]]) ([], [], Int.ofNat 0) fun r_6 =>
 bif decide ((b3c1a.length + 1) * 64 ≤ lim) then
 (next (IntKind.i64.wrap (i5 + 1)) r_6.2.1 r_6.2.2 (b3c1a ++ [(names4a.getD (Int.toNat i5) [], IntKind.i64.wrap (10 + r_3.1), r_4.1, r_4.1, [r_6.1])])) else none)
 else
 (bif decide ((b3c1a.length + 1) * 64 ≤ lim) then
 (next (IntKind.i64.wrap (i5 + 1)) r_5.2.1 r_5.2.2 (b3c1a ++ [(names4a.getD (Int.toNat i5) [], IntKind.i64.wrap (10 + r_3.1), r_4.1, r_4.1, [])])) else none)))
 else
 (bif decide ((b3c1a.length + 1) * 64 ≤ lim) then
 (next (IntKind.i64.wrap (i5 + 1)) r_2.2.1 r_2.2.2 (b3c1a ++ [(names4a.getD (Int.toNat i5) [], 0, 0, 0, [])])) else none)) else none) else none))
 else
 (I0 t2c4 b3c0 b3c4 b3c1a ([[97], [98], [99], [100], [101], [102]]) N 0 rpc0 rpc1 [])
def f_2k_0 (N : Nat) (t2c4 : Int) (b3c0 : List Foe) (b3c4 : Int) (names4a : List Txt) : Nat → Int → (List Int) → Int → (List Spot) → Option (Book × Rdr) := lp (fun _ _ _ _ => none) fun next => f_2k_0r N (f_2k_2 N) t2c4 b3c0 b3c4 names4a next
def f_2kb (N : Nat) (I1 : Int → (List Foe) → Int → (List Txt) → Nat → Int → (List Int) → Int → (List Spot) → Option (Book × Rdr)) (r : Rdr) : Option (Book × Rdr) :=
 ob (F.f_1g N r 3) (Int.ofNat 0, [], Int.ofNat 0) fun r_1 =>
 bif r_1.1 == 0 then
 (I1 0 (List.drop (Int.toNat 1) (List.take (↑[([97, 108, 101], [108, 121, 101]), ([108, 121, 101], [109, 97, 108, 116])].length : Int).toNat [([97, 108, 101], [108, 121, 101]), ([108, 121, 101], [109, 97, 108, 116])])) 0 ([[106, 49], [106, 50], [107, 101, 103], [116, 117, 110], [118, 97, 116]]) N 0 r_1.2.1 r_1.2.2 [])
 else
 (I1 0 ([([97, 108, 101], [108, 121, 101]), ([108, 121, 101], [109, 97, 108, 116])]) 0 ([[106, 49], [106, 50], [107, 101, 103], [116, 117, 110], [118, 97, 116]]) N 0 r_1.2.1 r_1.2.2 [])
def f_2k (N : Nat) (r : Rdr) : Option (Book × Rdr) := f_2kb N (f_2k_0 N) r
def f_38G (g_f_1g : ((List (Int)) × (Int)) → (Int) → Option ((Int) × ((List (Int)) × (Int)))) (r : Rdr) (b : Book) : Option (Int × Rdr) :=
 bif decide ((↑(List.length b.2.2.2.1) : Int) > 0) then
 (ob (g_f_1g r 6) (Int.ofNat 0, [], Int.ofNat 0) fun r_1 =>
 bif decide (r_1.1 > 0) then
 (ob (g_f_1g r_1.2 (↑(List.length b.2.2.2.1) : Int)) (Int.ofNat 0, [], Int.ofNat 0) fun r_2 =>
 bif decide (0 ≤ r_2.1) then
 (bif decide (r_2.1 < (↑(List.length b.2.2.2.1) : Int)) then
 (some ((List.getD b.2.2.2.1 (Int.toNat r_2.1) dPart).1.1, r_2.2)) else none) else none)
 else
 (ob (g_f_1g r_1.2 4) (Int.ofNat 0, [], Int.ofNat 0) fun r_3 =>
 bif decide (0 ≤ r_3.1) then
 (bif decide (r_3.1 < (↑[0, -1, b.2.2.2.2, IntKind.i64.wrap (b.2.2.2.2 + 1)].length : Int)) then
 (some ([0, -1, b.2.2.2.2, IntKind.i64.wrap (b.2.2.2.2 + 1)].getD (Int.toNat r_3.1) (Int.ofNat 0), r_3.2)) else none) else none))
 else
 (ob (g_f_1g r 4) (Int.ofNat 0, [], Int.ofNat 0) fun r_4 =>
 bif decide (0 ≤ r_4.1) then
 (bif decide (r_4.1 < (↑[0, -1, b.2.2.2.2, IntKind.i64.wrap (b.2.2.2.2 + 1)].length : Int)) then
 (some ([0, -1, b.2.2.2.2, IntKind.i64.wrap (b.2.2.2.2 + 1)].getD (Int.toNat r_4.1) (Int.ofNat 0), r_4.2)) else none) else none)
def f_38 (N : Nat) (r : Rdr) (b : Book) : Option (Int × Rdr) := f_38G (F.f_1g N) r b
def f_2h_0r (N : Nat) (b : Book) (number : Int) (next : Int → Option Int) : Int → Option Int := fun i5 =>
 bif decide (i5 < (↑(List.length b.2.2.2.1) : Int)) then
 (bif decide (0 ≤ i5) then
 (bif decide (i5 < (↑(List.length b.2.2.2.1) : Int)) then
 (bif (List.getD b.2.2.2.1 (Int.toNat i5) dPart).1.1 == number then
 (some i5)
 else
 (next (IntKind.i64.wrap (i5 + 1)))) else none) else none)
 else
 (some (-1))
def f_2h_0 (N : Nat) (b : Book) (number : Int) : Nat → Int → Option Int := lp (fun _ => none) fun next => f_2h_0r N b number next
def f_2hb (N : Nat) (I0 : Book → Int → Nat → Int → Option Int) (b : Book) (number : Int) : Option Int :=
 I0 b number N 0
def f_2h (N : Nat) (b : Book) (number : Int) : Option Int := f_2hb N (f_2h_0 N) b number
def f_27_0r (N : Nat) (r : Rdr) (b : Book) (r_1 : Int) (next : Int → Int → Option (Int × Rdr)) : Int → Int → Option (Int × Rdr) := fun most8 i9 =>
 bif decide (r_1 ≥ 0) then
 (bif decide (0 ≤ r_1) then
 (bif decide (r_1 < (↑(List.length b.2.2.2.1) : Int)) then
 (bif decide (i9 < (↑(List.length (List.getD b.2.2.2.1 (Int.toNat r_1) dPart).1.2.2.2.1) : Int)) then
 (bif decide (0 ≤ r_1) then
 (bif decide (r_1 < (↑(List.length b.2.2.2.1) : Int)) then
 (bif decide (0 ≤ i9) then
 (bif decide (i9 < (↑(List.length (List.getD b.2.2.2.1 (Int.toNat r_1) dPart).1.2.2.2.1) : Int)) then
 (bif (List.getD (List.getD b.2.2.2.1 (Int.toNat r_1) dPart).1.2.2.2.1 (Int.toNat i9) dUse).2.1 != 3 then
 (bif decide (most8 > (List.getD (List.getD b.2.2.2.1 (Int.toNat r_1) dPart).1.2.2.2.1 (Int.toNat i9) dUse).2.2) then
 (next ((List.getD (List.getD b.2.2.2.1 (Int.toNat r_1) dPart).1.2.2.2.1 (Int.toNat i9) dUse).2.2) (IntKind.i64.wrap (i9 + 1)))
 else
 (bif i9 == 0 then
 (next ((List.getD (List.getD b.2.2.2.1 (Int.toNat r_1) dPart).1.2.2.2.1 (Int.toNat i9) dUse).2.2) (IntKind.i64.wrap (i9 + 1)))
 else
 (next most8 (IntKind.i64.wrap (i9 + 1)))))
 else
 (next most8 (IntKind.i64.wrap (i9 + 1)))) else none) else none) else none) else none)
 else
 (ob (F.f_1g N r (IntKind.i64.wrap (most8 + 2))) (Int.ofNat 0, [], Int.ofNat 0) fun r_2 =>
 ob (F.f_1g N r_2.2 2) (Int.ofNat 0, [], Int.ofNat 0) fun r_3 =>
 ob (F.f_1g N r_3.2 2) (Int.ofNat 0, [], Int.ofNat 0) fun r_4 =>
 ob (F.f_1g N r_4.2 2) (Int.ofNat 0, [], Int.ofNat 0) fun r_5 =>
 some (IntKind.i64.wrap (r_2.1 - IntKind.i64.wrap (IntKind.i64.wrap (r_3.1 * r_4.1) * r_5.1)), r_5.2))) else none) else none)
 else
 (ob (F.f_1g N r (IntKind.i64.wrap (most8 + 2))) (Int.ofNat 0, [], Int.ofNat 0) fun r_6 =>
 ob (F.f_1g N r_6.2 2) (Int.ofNat 0, [], Int.ofNat 0) fun r_7 =>
 ob (F.f_1g N r_7.2 2) (Int.ofNat 0, [], Int.ofNat 0) fun r_8 =>
 ob (F.f_1g N r_8.2 2) (Int.ofNat 0, [], Int.ofNat 0) fun r_9 =>
 some (IntKind.i64.wrap (r_6.1 - IntKind.i64.wrap (IntKind.i64.wrap (r_7.1 * r_8.1) * r_9.1)), r_9.2))
def f_27_0 (N : Nat) (r : Rdr) (b : Book) (r_1 : Int) : Nat → Int → Int → Option (Int × Rdr) := lp (fun _ _ => none) fun next => f_27_0r N r b r_1 next
def f_27b (N : Nat) (I0 : Rdr → Book → Int → Nat → Int → Int → Option (Int × Rdr)) (r : Rdr) (b : Book) (number : Int) : Option (Int × Rdr) :=
 ob (F.f_2h N b number) (Int.ofNat 0) fun r_1 =>
 I0 r b r_1 N 3 0
def f_27 (N : Nat) (r : Rdr) (b : Book) (number : Int) : Option (Int × Rdr) := f_27b N (f_27_0 N) r b number
def f_1v_0r (N : Nat) (list : List Txt) (name : Txt) (next : Int → Option (List Txt)) : Int → Option (List Txt) := fun k5 =>
 bif decide (k5 < (↑list.length : Int)) then
 (bif decide (0 ≤ k5) then
 (bif decide (k5 < (↑list.length : Int)) then
 (bif Op.bytesLess (list.getD (Int.toNat k5) []) name then
 (next (IntKind.i64.wrap (k5 + 1)))
 else
 (bif decide (k5 < (↑list.length : Int)) then
 (bif decide (0 ≤ k5) then
 (bif decide (k5 < (↑list.length : Int)) then
 (bif list.getD (Int.toNat k5) [] == name then
 (some list)
 else
 (bif decide (0 ≤ k5) then
 (bif decide (k5 ≤ (↑(List.length list) : Int)) then
 (bif decide ((0 + (List.drop (Int.toNat 0) (List.take (Int.toNat k5) list)).length) * 16 ≤ lim) then
 (bif decide ((([] ++ List.drop (Int.toNat 0) (List.take (Int.toNat k5) list)).length + [name].length) * 16 ≤ lim) then
 (bif decide (0 ≤ k5) then
 (bif decide (k5 ≤ (↑(List.length list) : Int)) then
 (bif decide ((↑(List.length list) : Int) ≤ (↑(List.length list) : Int)) then
 (bif decide ((([] ++ List.drop (Int.toNat 0) (List.take (Int.toNat k5) list) ++ [name]).length + (List.drop (Int.toNat k5) (List.take (↑list.length : Int).toNat list)).length) * 16 ≤ lim) then
 (some ([] ++ List.drop (Int.toNat 0) (List.take (Int.toNat k5) list) ++ [name] ++ List.drop (Int.toNat k5) (List.take (↑list.length : Int).toNat list))) else none) else none) else none) else none) else none) else none) else none) else none)) else none) else none)
 else
 (bif decide (0 ≤ k5) then
 (bif decide (k5 ≤ (↑(List.length list) : Int)) then
 (bif decide ((0 + (List.drop (Int.toNat 0) (List.take (Int.toNat k5) list)).length) * 16 ≤ lim) then
 (bif decide ((([] ++ List.drop (Int.toNat 0) (List.take (Int.toNat k5) list)).length + [name].length) * 16 ≤ lim) then
 (bif decide (0 ≤ k5) then
 (bif decide (k5 ≤ (↑(List.length list) : Int)) then
 (bif decide ((↑(List.length list) : Int) ≤ (↑(List.length list) : Int)) then
 (bif decide ((([] ++ List.drop (Int.toNat 0) (List.take (Int.toNat k5) list) ++ [name]).length + (List.drop (Int.toNat k5) (List.take (↑list.length : Int).toNat list)).length) * 16 ≤ lim) then
 (some ([] ++ List.drop (Int.toNat 0) (List.take (Int.toNat k5) list) ++ [name] ++ List.drop (Int.toNat k5) (List.take (↑list.length : Int).toNat list))) else none) else none) else none) else none) else none) else none) else none) else none))) else none) else none)
 else
 (bif decide (k5 < (↑list.length : Int)) then
 (bif decide (0 ≤ k5) then
 (bif decide (k5 < (↑list.length : Int)) then
 (bif list.getD (Int.toNat k5) [] == name then
 (some list)
 else
 (bif decide (0 ≤ k5) then
 (bif decide (k5 ≤ (↑(List.length list) : Int)) then
 (bif decide ((0 + (List.drop (Int.toNat 0) (List.take (Int.toNat k5) list)).length) * 16 ≤ lim) then
 (bif decide ((([] ++ List.drop (Int.toNat 0) (List.take (Int.toNat k5) list)).length + [name].length) * 16 ≤ lim) then
 (bif decide (0 ≤ k5) then
 (bif decide (k5 ≤ (↑(List.length list) : Int)) then
 (bif decide ((↑(List.length list) : Int) ≤ (↑(List.length list) : Int)) then
 (bif decide ((([] ++ List.drop (Int.toNat 0) (List.take (Int.toNat k5) list) ++ [name]).length + (List.drop (Int.toNat k5) (List.take (↑list.length : Int).toNat list)).length) * 16 ≤ lim) then
 (some ([] ++ List.drop (Int.toNat 0) (List.take (Int.toNat k5) list) ++ [name] ++ List.drop (Int.toNat k5) (List.take (↑list.length : Int).toNat list))) else none) else none) else none) else none) else none) else none) else none) else none)) else none) else none)
 else
 (bif decide (0 ≤ k5) then
 (bif decide (k5 ≤ (↑(List.length list) : Int)) then
 (bif decide ((0 + (List.drop (Int.toNat 0) (List.take (Int.toNat k5) list)).length) * 16 ≤ lim) then
 (bif decide ((([] ++ List.drop (Int.toNat 0) (List.take (Int.toNat k5) list)).length + [name].length) * 16 ≤ lim) then
 (bif decide (0 ≤ k5) then
 (bif decide (k5 ≤ (↑(List.length list) : Int)) then
 (bif decide ((↑(List.length list) : Int) ≤ (↑(List.length list) : Int)) then
 (bif decide ((([] ++ List.drop (Int.toNat 0) (List.take (Int.toNat k5) list) ++ [name]).length + (List.drop (Int.toNat k5) (List.take (↑list.length : Int).toNat list)).length) * 16 ≤ lim) then
 (some ([] ++ List.drop (Int.toNat 0) (List.take (Int.toNat k5) list) ++ [name] ++ List.drop (Int.toNat k5) (List.take (↑list.length : Int).toNat list))) else none) else none) else none) else none) else none) else none) else none) else none))
def f_1v_0 (N : Nat) (list : List Txt) (name : Txt) : Nat → Int → Option (List Txt) := lp (fun _ => none) fun next => f_1v_0r N list name next
def f_1vb (N : Nat) (I0 : (List Txt) → Txt → Nat → Int → Option (List Txt)) (list : List Txt) (name : Txt) : Option (List Txt) :=
 I0 list name N 0
def f_1v (N : Nat) (list : List Txt) (name : Txt) : Option (List Txt) := f_1vb N (f_1v_0 N) list name
def f_2o_0r (N : Nat) (list : List Txt) (most : Int) (next : Int → (List Int) → Int → (List Txt) → Option (List Txt × Rdr)) : Int → (List Int) → Int → (List Txt) → Option (List Txt × Rdr) := fun i8 rpc0 rpc1 out7a =>
 bif decide (i8 < (↑list.length : Int)) then
 (bif decide ((↑out7a.length : Int) < most) then
 (ob (F.f_1g N (rpc0, rpc1) 4) (Int.ofNat 0, [], Int.ofNat 0) fun r_2 =>
 bif r_2.1 == 0 then
 (bif decide (0 ≤ i8) then
 (bif decide (i8 < (↑list.length : Int)) then
 (bif decide ((out7a.length + 1) * 16 ≤ lim) then
 (next (IntKind.i64.wrap (i8 + 1)) r_2.2.1 r_2.2.2 (out7a ++ [list.getD (Int.toNat i8) []])) else none) else none) else none)
 else
 (next (IntKind.i64.wrap (i8 + 1)) r_2.2.1 r_2.2.2 out7a))
 else
 (some (out7a, rpc0, rpc1)))
 else
 (some (out7a, rpc0, rpc1))
def f_2o_0 (N : Nat) (list : List Txt) (most : Int) : Nat → Int → (List Int) → Int → (List Txt) → Option (List Txt × Rdr) := lp (fun _ _ _ _ => none) fun next => f_2o_0r N list most next
def f_2ob (N : Nat) (I0 : (List Txt) → Int → Nat → Int → (List Int) → Int → (List Txt) → Option (List Txt × Rdr)) (r : Rdr) (list : List Txt) (most : Int) : Option (List Txt × Rdr) :=
 I0 list most N 0 r.1 r.2 []
def f_2o (N : Nat) (r : Rdr) (list : List Txt) (most : Int) : Option (List Txt × Rdr) := f_2ob N (f_2o_0 N) r list most
def f_2z_0r (N : Nat) (list : List Txt) (name : Txt) (next : Int → Option Bool) : Int → Option Bool := fun i5 =>
 bif decide (i5 < (↑list.length : Int)) then
 (bif decide (0 ≤ i5) then
 (bif decide (i5 < (↑list.length : Int)) then
 (bif list.getD (Int.toNat i5) [] == name then
 (some true)
 else
 (next (IntKind.i64.wrap (i5 + 1)))) else none) else none)
 else
 (some false)
def f_2z_0 (N : Nat) (list : List Txt) (name : Txt) : Nat → Int → Option Bool := lp (fun _ => none) fun next => f_2z_0r N list name next
def f_2zb (N : Nat) (I0 : (List Txt) → Txt → Nat → Int → Option Bool) (list : List Txt) (name : Txt) : Option Bool :=
 I0 list name N 0
def f_2z (N : Nat) (list : List Txt) (name : Txt) : Option Bool := f_2zb N (f_2z_0 N) list name
def f_2n_2r (N : Nat) (nx0 : Int → (List Int) → Int → (List Txt) → Option (Want × Rdr)) (b : Book) (number : Int) (t6c0 : Int) (t6c1 : Int) (w7c1 : Int) (i8 : Int) (r_3 : Int × Rdr) (next : Int → (List Txt) → Option (Want × Rdr)) : Int → (List Txt) → Option (Want × Rdr) := fun k9 w7c2_1 =>
 bif decide (0 ≤ i8) then
 (bif decide (i8 < (↑(List.length b.2.1) : Int)) then
 (bif decide (k9 < (↑(List.length (List.getD b.2.1 (Int.toNat i8) dSpot).2.2.2.2) : Int)) then
 (bif decide (0 ≤ i8) then
 (bif decide (i8 < (↑(List.length b.2.1) : Int)) then
 (bif decide (0 ≤ k9) then
 (bif decide (k9 < (↑(List.length (List.getD b.2.1 (Int.toNat i8) dSpot).2.2.2.2) : Int)) then
 (ob (F.f_1v N w7c2_1 (List.getD (List.getD b.2.1 (Int.toNat i8) dSpot).2.2.2.2 (Int.toNat k9) [])) [] fun r_4 =>
 next (IntKind.i64.wrap (k9 + 1)) r_4) else none) else none) else none) else none)
 else
 (nx0 (IntKind.i64.wrap (i8 + 1)) r_3.2.1 r_3.2.2 w7c2_1)) else none) else none
def f_2n_2 (N : Nat) (nx0 : Int → (List Int) → Int → (List Txt) → Option (Want × Rdr)) (b : Book) (number : Int) (t6c0 : Int) (t6c1 : Int) (w7c1 : Int) (i8 : Int) (r_3 : Int × Rdr) : Nat → Int → (List Txt) → Option (Want × Rdr) := lp (fun _ _ => none) fun next => f_2n_2r N nx0 b number t6c0 t6c1 w7c1 i8 r_3 next
def f_2n_6r (N : Nat) (nx4 : Int → (List Int) → Int → (List Txt) → (List Use) → Option (Want × Rdr)) (b : Book) (number : Int) (t6c0_2 : Int) (t6c1_2 : Int) (w7c1_2 : Int) (i10 : Int) (w7c3a : List Use) (u11c0 : Txt) (u11c1 : Int) (u11c2 : Int) (next : Int → (List Int) → Int → (List Txt) → Option (Want × Rdr)) : Int → (List Int) → Int → (List Txt) → Option (Want × Rdr) := fun k12 rpc0_3 rpc1_3 w7c2_3 =>
 bif decide (0 ≤ i10) then
 (bif decide (i10 < (↑(List.length b.2.1) : Int)) then
 (bif decide (k12 < (↑(List.length (List.getD b.2.1 (Int.toNat i10) dSpot).2.2.2.2) : Int)) then
 (bif w7c1_2 == 1 then
 (bif u11c1 != 2 then
 (ob (F.f_1g N (rpc0_3, rpc1_3) 4) (Int.ofNat 0, [], Int.ofNat 0) fun r_8 =>
 bif decide (r_8.1 > 0) then
 (bif decide (0 ≤ i10) then
 (bif decide (i10 < (↑(List.length b.2.1) : Int)) then
 (bif decide (0 ≤ k12) then
 (bif decide (k12 < (↑(List.length (List.getD b.2.1 (Int.toNat i10) dSpot).2.2.2.2) : Int)) then
 (ob (F.f_1v N w7c2_3 (List.getD (List.getD b.2.1 (Int.toNat i10) dSpot).2.2.2.2 (Int.toNat k12) [])) [] fun r_9 =>
 next (IntKind.i64.wrap (k12 + 1)) r_8.2.1 r_8.2.2 r_9) else none) else none) else none) else none)
 else
 (bif decide ((w7c3a.length + 1) * 32 ≤ lim) then
 (nx4 (IntKind.i64.wrap (i10 + 1)) r_8.2.1 r_8.2.2 w7c2_3 (w7c3a ++ [(u11c0, u11c1, u11c2)])) else none))
 else
 (bif decide ((w7c3a.length + 1) * 32 ≤ lim) then
 (nx4 (IntKind.i64.wrap (i10 + 1)) rpc0_3 rpc1_3 w7c2_3 (w7c3a ++ [(u11c0, u11c1, u11c2)])) else none))
 else
 (bif decide ((w7c3a.length + 1) * 32 ≤ lim) then
 (nx4 (IntKind.i64.wrap (i10 + 1)) rpc0_3 rpc1_3 w7c2_3 (w7c3a ++ [(u11c0, u11c1, u11c2)])) else none))
 else
 (bif decide ((w7c3a.length + 1) * 32 ≤ lim) then
 (nx4 (IntKind.i64.wrap (i10 + 1)) rpc0_3 rpc1_3 w7c2_3 (w7c3a ++ [(u11c0, u11c1, u11c2)])) else none)) else none) else none
def f_2n_6 (N : Nat) (nx4 : Int → (List Int) → Int → (List Txt) → (List Use) → Option (Want × Rdr)) (b : Book) (number : Int) (t6c0_2 : Int) (t6c1_2 : Int) (w7c1_2 : Int) (i10 : Int) (w7c3a : List Use) (u11c0 : Txt) (u11c1 : Int) (u11c2 : Int) : Nat → Int → (List Int) → Int → (List Txt) → Option (Want × Rdr) := lp (fun _ _ _ _ => none) fun next => f_2n_6r N nx4 b number t6c0_2 t6c1_2 w7c1_2 i10 w7c3a u11c0 u11c1 u11c2 next
def f_2n_8r (N : Nat) (number : Int) (t6c0_2 : Int) (t6c1_2 : Int) (w7c1_2 : Int) (w7c2_2 : List Txt) (w7c3a : List Use) (r_10 : List Txt × Rdr) (r_11 : List Txt × Rdr) (next : Int → (List Txt) → Option (Want × Rdr)) : Int → (List Txt) → Option (Want × Rdr) := fun i14 w7c4a =>
 bif decide (i14 < (↑(List.length r_11.1) : Int)) then
 (bif decide (0 ≤ i14) then
 (bif decide (i14 < (↑(List.length r_11.1) : Int)) then
 (ob (F.f_2z N r_10.1 (List.getD r_11.1 (Int.toNat i14) [])) false fun r_12 =>
 bif !r_12 then
 (bif decide (0 ≤ i14) then
 (bif decide (i14 < (↑(List.length r_11.1) : Int)) then
 (bif decide ((w7c4a.length + 1) * 16 ≤ lim) then
 (next (IntKind.i64.wrap (i14 + 1)) (w7c4a ++ [List.getD r_11.1 (Int.toNat i14) []])) else none) else none) else none)
 else
 (next (IntKind.i64.wrap (i14 + 1)) w7c4a)) else none) else none)
 else
 (some ((number, w7c1_2, w7c2_2, w7c3a, w7c4a, r_10.1), r_11.2))
def f_2n_8 (N : Nat) (number : Int) (t6c0_2 : Int) (t6c1_2 : Int) (w7c1_2 : Int) (w7c2_2 : List Txt) (w7c3a : List Use) (r_10 : List Txt × Rdr) (r_11 : List Txt × Rdr) : Nat → Int → (List Txt) → Option (Want × Rdr) := lp (fun _ _ => none) fun next => f_2n_8r N number t6c0_2 t6c1_2 w7c1_2 w7c2_2 w7c3a r_10 r_11 next
def f_2n_4r (N : Nat) (I1 : Int → (List Use) → Txt → Int → Int → Nat → Int → (List Int) → Int → (List Txt) → Option (Want × Rdr)) (I2 : Int → Int → Int → Int → (List Txt) → (List Use) → (List Txt × Rdr) → (List Txt × Rdr) → Nat → Int → (List Txt) → Option (Want × Rdr)) (b : Book) (number : Int) (t6c0_2 : Int) (t6c1_2 : Int) (w7c1_2 : Int) (next : Int → (List Int) → Int → (List Txt) → (List Use) → Option (Want × Rdr)) : Int → (List Int) → Int → (List Txt) → (List Use) → Option (Want × Rdr) := fun i10 rpc0_2 rpc1_2 w7c2_2 w7c3a =>
 bif decide (i10 < (↑(List.length b.2.1) : Int)) then
 (ob (F.f_1g N (rpc0_2, rpc1_2) 3) (Int.ofNat 0, [], Int.ofNat 0) fun r_5 =>
 bif decide (r_5.1 > 0) then
 (next (IntKind.i64.wrap (i10 + 1)) r_5.2.1 r_5.2.2 w7c2_2 w7c3a)
 else
 (bif decide (0 ≤ i10) then
 (bif decide (i10 < (↑(List.length b.2.1) : Int)) then
 (bif w7c1_2 == 1 then
 (bif decide (0 ≤ i10) then
 (bif decide (i10 < (↑(List.length b.2.1) : Int)) then
 (bif decide ((List.getD b.2.1 (Int.toNat i10) dSpot).2.1 > 0) then
 (ob (F.f_1g N r_5.2 2) (Int.ofNat 0, [], Int.ofNat 0) fun r_6 =>
 ob (F.f_1g N r_6.2 14) (Int.ofNat 0, [], Int.ofNat 0) fun r_7 =>
 I1 i10 w7c3a ((List.getD b.2.1 (Int.toNat i10) dSpot).1) (IntKind.i64.wrap (1 + r_6.1)) (IntKind.i64.wrap (1 + r_7.1)) N 0 r_7.2.1 r_7.2.2 w7c2_2)
 else
 (I1 i10 w7c3a ((List.getD b.2.1 (Int.toNat i10) dSpot).1) 3 0 N 0 r_5.2.1 r_5.2.2 w7c2_2)) else none) else none)
 else
 (I1 i10 w7c3a ((List.getD b.2.1 (Int.toNat i10) dSpot).1) 3 0 N 0 r_5.2.1 r_5.2.2 w7c2_2)) else none) else none))
 else
 (ob (F.f_2o N (rpc0_2, rpc1_2) b.2.2.1 4) ([], [], Int.ofNat 0) fun r_10 =>
 bif w7c1_2 == 1 then
 (ob (F.f_2o N r_10.2 b.2.2.1 3) ([], [], Int.ofNat 0) fun r_11 =>
 I2 number t6c0_2 t6c1_2 w7c1_2 w7c2_2 w7c3a r_10 r_11 N 0 [])
 else
 (some ((number, w7c1_2, w7c2_2, w7c3a, [], r_10.1), r_10.2)))
def f_2n_4 (N : Nat) (b : Book) (number : Int) (t6c0_2 : Int) (t6c1_2 : Int) (w7c1_2 : Int) : Nat → Int → (List Int) → Int → (List Txt) → (List Use) → Option (Want × Rdr) := lp (fun _ _ _ _ _ => none) fun next => f_2n_4r N (f_2n_6 N next b number t6c0_2 t6c1_2 w7c1_2) (f_2n_8 N) b number t6c0_2 t6c1_2 w7c1_2 next
def f_2n_0r (N : Nat) (I0 : Int → (Int × Rdr) → Nat → Int → (List Txt) → Option (Want × Rdr)) (I3 : Book → Int → Int → Int → Int → Nat → Int → (List Int) → Int → (List Txt) → (List Use) → Option (Want × Rdr)) (b : Book) (number : Int) (t6c0 : Int) (t6c1 : Int) (w7c1 : Int) (next : Int → (List Int) → Int → (List Txt) → Option (Want × Rdr)) : Int → (List Int) → Int → (List Txt) → Option (Want × Rdr) := fun i8 rpc0 rpc1 w7c2 =>
 bif decide (i8 < (↑(List.length b.2.1) : Int)) then
 (ob (F.f_1g N (rpc0, rpc1) 4) (Int.ofNat 0, [], Int.ofNat 0) fun r_3 =>
 bif r_3.1 == 0 then
 (I0 i8 r_3 N 0 w7c2)
 else
 (I3 b number t6c0 t6c1 w7c1 N 0 r_3.2.1 r_3.2.2 w7c2 []))
 else
 (I3 b number t6c0 t6c1 w7c1 N 0 rpc0 rpc1 w7c2 [])
def f_2n_0 (N : Nat) (b : Book) (number : Int) (t6c0 : Int) (t6c1 : Int) (w7c1 : Int) : Nat → Int → (List Int) → Int → (List Txt) → Option (Want × Rdr) := lp (fun _ _ _ _ => none) fun next => f_2n_0r N (f_2n_2 N next b number t6c0 t6c1 w7c1) (f_2n_4 N) b number t6c0 t6c1 w7c1 next
def f_2nb (N : Nat) (I4 : Book → Int → Int → Int → Int → Nat → Int → (List Int) → Int → (List Txt) → Option (Want × Rdr)) (I3 : Book → Int → Int → Int → Int → Nat → Int → (List Int) → Int → (List Txt) → (List Use) → Option (Want × Rdr)) (r : Rdr) (b : Book) (number : Int) : Option (Want × Rdr) :=
 ob (F.f_1g N r 5) (Int.ofNat 0, [], Int.ofNat 0) fun r_1 =>
 bif decide (0 ≤ r_1.1) then
 (bif decide (r_1.1 < (↑[1, 1, 1, 2, 3].length : Int)) then
 (bif [1, 1, 1, 2, 3].getD (Int.toNat r_1.1) (Int.ofNat 0) == 1 then
 (ob (F.f_20 N r_1.2 [[97, 108, 101], [109, 97, 108, 116], [119, 97, 116, 101, 114], [108, 121, 101]]) ([], [], Int.ofNat 0) fun r_2 =>
 I4 b number 0 0 ([1, 1, 1, 2, 3].getD (Int.toNat r_1.1) (Int.ofNat 0)) N 0 r_2.2.1 r_2.2.2 [r_2.1])
 else
 (I3 b number 0 0 ([1, 1, 1, 2, 3].getD (Int.toNat r_1.1) (Int.ofNat 0)) N 0 r_1.2.1 r_1.2.2 [] [])) else none) else none
def f_2n (N : Nat) (r : Rdr) (b : Book) (number : Int) : Option (Want × Rdr) := f_2nb N (f_2n_0 N) (f_2n_4 N) r b number
def f_1z (N : Nat) (list : List Txt) : Option (List Txt) :=
 bif decide ((0 + list.length) * 16 ≤ lim) then
 (some ([] ++ list)) else none
def f_2e (N : Nat) (w : Want) : Option Want :=
 bif decide ((0 + List.length w.2.2.2.1) * 32 ≤ lim) then
 (ob (F.f_1z N w.2.2.1) [] fun r =>
 ob (F.f_1z N w.2.2.2.2.1) [] fun r_1 =>
 ob (F.f_1z N w.2.2.2.2.2) [] fun r_2 =>
 some (w.1, w.2.1, r, [] ++ w.2.2.2.1, r_1, r_2)) else none
def f_32F (N : Nat) : Nat → Int → Option Txt
 | 0, n => bif decide (n < 0) then
 none
 else
 (bif decide (n < 10) then
 (some (List.map byteOf [IntKind.u8.wrap (IntKind.i64.wrap (48 + n))]))
 else
 none)
 | m + 1, n => bif decide (n < 0) then
 (ob (f_32F N m (IntKind.i64.wrap (0 - n))) [] fun r =>
 bif decide (1 + List.length r ≤ lim) then
 (some ([45] ++ r)) else none)
 else
 (bif decide (n < 10) then
 (some (List.map byteOf [IntKind.u8.wrap (IntKind.i64.wrap (48 + n))]))
 else
 (ob (f_32F N m (IntKind.i64.wrap (n.tdiv 10))) [] fun r_1 =>
 bif decide (List.length r_1 + (List.map byteOf [IntKind.u8.wrap (IntKind.i64.wrap (48 + n.tmod 10))]).length ≤ lim) then
 (some (r_1 ++ List.map byteOf [IntKind.u8.wrap (IntKind.i64.wrap (48 + n.tmod 10))])) else none))
def f_32 (N : Nat) (n : Int) : Option Txt := f_32F N 64 n
def f_12_1r (N : Nat) (r_1 : Want) (r_13 : Int × Rdr) (n6 : Int) (t4c0 : Int) (t4c1 : Int) (next : Int → (List Txt) → Option (Want × Rdr)) : Int → (List Txt) → Option (Want × Rdr) := fun i7 x5c5a =>
 bif decide ((↑x5c5a.length : Int) < n6) then
 (ob (F.f_32 N (IntKind.i64.wrap (10 + i7))) [] fun r_15 =>
 bif decide (1 + List.length r_15 ≤ lim) then
 (bif decide ((x5c5a.length + 1) * 16 ≤ lim) then
 (next (IntKind.i64.wrap (i7 + 1)) (x5c5a ++ [[122] ++ r_15])) else none) else none)
 else
 (some ((r_1.1, r_1.2.1, r_1.2.2.1, r_1.2.2.2.1, r_1.2.2.2.2.1, x5c5a), r_13.2))
def f_12_1 (N : Nat) (r_1 : Want) (r_13 : Int × Rdr) (n6 : Int) (t4c0 : Int) (t4c1 : Int) : Nat → Int → (List Txt) → Option (Want × Rdr) := lp (fun _ _ => none) fun next => f_12_1r N r_1 r_13 n6 t4c0 t4c1 next
def f_12b (N : Nat) (I0 : Want → (Int × Rdr) → Int → Int → Int → Nat → Int → (List Txt) → Option (Want × Rdr)) (r : Rdr) (w : Want) : Option (Want × Rdr) :=
 ob (F.f_2e N w) dWant fun r_1 =>
 ob (F.f_1g N r 8) (Int.ofNat 0, [], Int.ofNat 0) fun r_2 =>
 bif r_2.1 == 0 then
 (ob (F.f_1g N r_2.2 4) (Int.ofNat 0, [], Int.ofNat 0) fun r_3 =>
 bif decide (0 ≤ r_3.1) then
 (bif decide (r_3.1 < (↑[0, -1, 1000000, 1000001].length : Int)) then
 (some (([0, -1, 1000000, 1000001].getD (Int.toNat r_3.1) (Int.ofNat 0), r_1.2), r_3.2)) else none) else none)
 else
 (bif r_2.1 == 1 then
 (ob (F.f_1g N r_2.2 6) (Int.ofNat 0, [], Int.ofNat 0) fun r_4 =>
 some ((r_1.1, IntKind.i64.wrap (r_4.1 - 1), r_1.2.2), r_4.2))
 else
 (bif r_2.1 == 2 then
 (ob (F.f_1g N r_2.2 5) (Int.ofNat 0, [], Int.ofNat 0) fun r_5 =>
 bif decide (0 ≤ r_5.1) then
 (bif decide (r_5.1 < (↑[[], [[65]], [[97, 108, 101], [97, 108, 101]], [[97, 108, 101]], [[97, 108, 101], [108, 121, 101]]].length : Int)) then
 (some ((r_1.1, r_1.2.1, [[], [[65]], [[97, 108, 101], [97, 108, 101]], [[97, 108, 101]], [[97, 108, 101], [108, 121, 101]]].getD (Int.toNat r_5.1) [], r_1.2.2.2), r_5.2)) else none) else none)
 else
 (bif r_2.1 == 3 then
 (ob (F.f_20 N r_2.2 [[], [107, 101, 103], [122, 122]]) ([], [], Int.ofNat 0) fun r_6 =>
 ob (F.f_1g N r_6.2 5) (Int.ofNat 0, [], Int.ofNat 0) fun r_7 =>
 ob (F.f_1g N r_7.2 3) (Int.ofNat 0, [], Int.ofNat 0) fun r_8 =>
 bif decide ((List.length r_1.2.2.2.1 + 1) * 32 ≤ lim) then
 (some ((r_1.1, r_1.2.1, r_1.2.2.1, r_1.2.2.2.1 ++ [(r_6.1, r_7.1, r_8.1)], r_1.2.2.2.2), r_8.2)) else none)
 else
 (bif r_2.1 == 4 then
 (bif decide ((↑(List.length r_1.2.2.2.1) : Int) > 0) then
 (ob (F.f_1g N r_2.2 (↑(List.length r_1.2.2.2.1) : Int)) (Int.ofNat 0, [], Int.ofNat 0) fun r_9 =>
 ob (F.f_1g N r_9.2 4) (Int.ofNat 0, [], Int.ofNat 0) fun r_10 =>
 bif decide (0 ≤ r_10.1) then
 (bif decide (r_10.1 < (↑[-1, 0, 1000, 1001].length : Int)) then
 (bif decide (0 ≤ r_9.1) then
 (bif decide (r_9.1 < (↑(List.length r_1.2.2.2.1) : Int)) then
 (let t1577as : List Use := List.set r_1.2.2.2.1 (Int.toNat r_9.1) ((List.getD r_1.2.2.2.1 (Int.toNat r_9.1) dUse).1, (List.getD r_1.2.2.2.1 (Int.toNat r_9.1) dUse).2.1, [-1, 0, 1000, 1001].getD (Int.toNat r_10.1) (Int.ofNat 0))
 some ((r_1.1, r_1.2.1, r_1.2.2.1, t1577as, r_1.2.2.2.2), r_10.2)) else none) else none) else none) else none)
 else
 (some (r_1, r_2.2)))
 else
 (bif r_2.1 == 5 then
 (ob (F.f_20 N r_2.2 [[], [97], [122, 122]]) ([], [], Int.ofNat 0) fun r_11 =>
 bif decide ((List.length r_1.2.2.2.2.1 + 1) * 16 ≤ lim) then
 (some ((r_1.1, r_1.2.1, r_1.2.2.1, r_1.2.2.2.1, r_1.2.2.2.2.1 ++ [r_11.1], r_1.2.2.2.2.2), r_11.2)) else none)
 else
 (bif r_2.1 == 6 then
 (ob (F.f_20 N r_2.2 [[], [97], [122, 122]]) ([], [], Int.ofNat 0) fun r_12 =>
 bif decide ((List.length r_1.2.2.2.2.2 + 1) * 16 ≤ lim) then
 (some ((r_1.1, r_1.2.1, r_1.2.2.1, r_1.2.2.2.1, r_1.2.2.2.2.1, r_1.2.2.2.2.2 ++ [r_12.1]), r_12.2)) else none)
 else
 (ob (F.f_1g N r_2.2 2) (Int.ofNat 0, [], Int.ofNat 0) fun r_13 =>
 I0 r_1 r_13 (IntKind.i64.wrap (12 + r_13.1)) 0 0 N 0 r_1.2.2.2.2.2)))))))
def f_12 (N : Nat) (r : Rdr) (w : Want) : Option (Want × Rdr) := f_12b N (f_12_1 N) r w
def f_2m (N : Nat) (r : Rdr) (b : Book) : Option (Do × Rdr) :=
 ob (F.f_1g N r 8) (Int.ofNat 0, [], Int.ofNat 0) fun r_1 =>
 bif r_1.1 == 0 then
 (ob (F.f_38 N r_1.2 b) (Int.ofNat 0, [], Int.ofNat 0) fun r_2 =>
 some (((0, 0, [], [], [], []), r_2.1, 0, 0, false), r_2.2))
 else
 (bif r_1.1 == 1 then
 (ob (F.f_38 N r_1.2 b) (Int.ofNat 0, [], Int.ofNat 0) fun r_3 =>
 some (((0, 0, [], [], [], []), r_3.1, 0, 0, false), r_3.2))
 else
 (bif r_1.1 == 2 then
 (ob (F.f_38 N r_1.2 b) (Int.ofNat 0, [], Int.ofNat 0) fun r_4 =>
 ob (F.f_27 N r_4.2 b r_4.1) (Int.ofNat 0, [], Int.ofNat 0) fun r_5 =>
 ob (F.f_1g N r_5.2 3) (Int.ofNat 0, [], Int.ofNat 0) fun r_6 =>
 some (((0, 0, [], [], [], []), 0, r_4.1, r_5.1, decide (r_6.1 > 0)), r_6.2))
 else
 (bif r_1.1 == 3 then
 (ob (F.f_38 N r_1.2 b) (Int.ofNat 0, [], Int.ofNat 0) fun r_7 =>
 ob (F.f_27 N r_7.2 b r_7.1) (Int.ofNat 0, [], Int.ofNat 0) fun r_8 =>
 ob (F.f_1g N r_8.2 3) (Int.ofNat 0, [], Int.ofNat 0) fun r_9 =>
 some (((0, 0, [], [], [], []), 0, r_7.1, r_8.1, decide (r_9.1 > 0)), r_9.2))
 else
 (ob (F.f_1g N r_1.2 2) (Int.ofNat 0, [], Int.ofNat 0) fun r_10 =>
 ob (F.f_2n N r_10.2 b (IntKind.i64.wrap (IntKind.i64.wrap (b.2.2.2.2 + 1) + r_10.1))) (dWant, [], Int.ofNat 0) fun r_11 =>
 ob (F.f_1g N r_11.2 12) (Int.ofNat 0, [], Int.ofNat 0) fun r_12 =>
 bif r_12.1 == 0 then
 (ob (F.f_1g N r_12.2 (IntKind.i64.wrap (b.2.2.2.2 + 1))) (Int.ofNat 0, [], Int.ofNat 0) fun r_13 =>
 some (((IntKind.i64.wrap (1 + r_13.1), r_11.1.2), 0, 0, 0, false), r_13.2))
 else
 (bif r_12.1 == 1 then
 (ob (F.f_12 N r_12.2 r_11.1) (dWant, [], Int.ofNat 0) fun r_14 =>
 some ((r_14.1, 0, 0, 0, false), r_14.2))
 else
 (bif r_12.1 == 2 then
 (bif decide ((↑(List.length b.2.2.2.1) : Int) > 0) then
 (ob (F.f_1g N r_12.2 (↑(List.length b.2.2.2.1) : Int)) (Int.ofNat 0, [], Int.ofNat 0) fun r_15 =>
 bif decide (0 ≤ r_15.1) then
 (bif decide (r_15.1 < (↑(List.length b.2.2.2.1) : Int)) then
 (ob (F.f_2e N (List.getD b.2.2.2.1 (Int.toNat r_15.1) dPart).1) dWant fun r_16 =>
 some ((r_16, 0, 0, 0, false), r_15.2)) else none) else none)
 else
 (some ((r_11.1, 0, 0, 0, false), r_12.2)))
 else
 (some ((r_11.1, 0, 0, 0, false), r_12.2))))))))
def f_37 (N : Nat) (n : Int) (low : Int) (high : Int) : Option Bool :=
 bif decide (n ≥ low) then
 (some (decide (n ≤ high)))
 else
 (some false)
def f_1q_0r (N : Nat) (s : Txt) (next : Int → Option Bool) : Int → Option Bool := fun i3 =>
 bif decide (i3 < (↑s.length : Int)) then
 (bif decide (0 ≤ i3) then
 (bif decide (i3 < (↑s.length : Int)) then
 (bif decide ((↑(s.getD (Int.toNat i3) 0).toNat : Int) ≥ 97) then
 (bif decide ((↑(s.getD (Int.toNat i3) 0).toNat : Int) ≤ 122) then
 (next (IntKind.i64.wrap (i3 + 1)))
 else
 (bif decide ((↑(s.getD (Int.toNat i3) 0).toNat : Int) ≥ 48) then
 (bif decide ((↑(s.getD (Int.toNat i3) 0).toNat : Int) ≤ 57) then
 (next (IntKind.i64.wrap (i3 + 1)))
 else
 (bif !(↑(s.getD (Int.toNat i3) 0).toNat : Int) == 45 then
 (some false)
 else
 (next (IntKind.i64.wrap (i3 + 1)))))
 else
 (bif !(↑(s.getD (Int.toNat i3) 0).toNat : Int) == 45 then
 (some false)
 else
 (next (IntKind.i64.wrap (i3 + 1))))))
 else
 (bif decide ((↑(s.getD (Int.toNat i3) 0).toNat : Int) ≥ 48) then
 (bif decide ((↑(s.getD (Int.toNat i3) 0).toNat : Int) ≤ 57) then
 (next (IntKind.i64.wrap (i3 + 1)))
 else
 (bif !(↑(s.getD (Int.toNat i3) 0).toNat : Int) == 45 then
 (some false)
 else
 (next (IntKind.i64.wrap (i3 + 1)))))
 else
 (bif !(↑(s.getD (Int.toNat i3) 0).toNat : Int) == 45 then
 (some false)
 else
 (next (IntKind.i64.wrap (i3 + 1)))))) else none) else none)
 else
 (some true)
def f_1q_0 (N : Nat) (s : Txt) : Nat → Int → Option Bool := lp (fun _ => none) fun next => f_1q_0r N s next
def f_1qb (N : Nat) (I0 : Txt → Nat → Int → Option Bool) (s : Txt) : Option Bool :=
 ob (F.f_37 N (↑s.length : Int) 1 8) false fun r =>
 bif !r then
 (some false)
 else
 (I0 s N 0)
def f_1q (N : Nat) (s : Txt) : Option Bool := f_1qb N (f_1q_0 N) s
def f_1s_0r (N : Nat) (b : Book) (next : Int → Option Bool) : Int → Option Bool := fun i3 =>
 bif decide (i3 < (↑(List.length b.1) : Int)) then
 (bif decide (0 ≤ i3) then
 (bif decide (i3 < (↑(List.length b.1) : Int)) then
 (ob (F.f_1q N (List.getD b.1 (Int.toNat i3) dFoe).1) false fun r =>
 bif !r then
 (some false)
 else
 (ob (F.f_1q N (List.getD b.1 (Int.toNat i3) dFoe).2) false fun r_1 =>
 bif !r_1 then
 (some false)
 else
 (bif !Op.bytesLess (List.getD b.1 (Int.toNat i3) dFoe).1 (List.getD b.1 (Int.toNat i3) dFoe).2 then
 (some false)
 else
 (bif decide (i3 > 0) then
 (bif decide (0 ≤ IntKind.i64.wrap (i3 - 1)) then
 (bif decide (IntKind.i64.wrap (i3 - 1) < (↑(List.length b.1) : Int)) then
 (bif !(Op.bytesLess (List.getD b.1 (IntKind.i64.wrap (i3 - 1)).toNat dFoe).1 (List.getD b.1 (Int.toNat i3) dFoe).1 || (List.getD b.1 (IntKind.i64.wrap (i3 - 1)).toNat dFoe).1 == (List.getD b.1 (Int.toNat i3) dFoe).1) then
 (some false)
 else
 (bif decide (0 ≤ IntKind.i64.wrap (i3 - 1)) then
 (bif decide (IntKind.i64.wrap (i3 - 1) < (↑(List.length b.1) : Int)) then
 (bif (List.getD b.1 (IntKind.i64.wrap (i3 - 1)).toNat dFoe).1 == (List.getD b.1 (Int.toNat i3) dFoe).1 then
 (bif decide (0 ≤ IntKind.i64.wrap (i3 - 1)) then
 (bif decide (IntKind.i64.wrap (i3 - 1) < (↑(List.length b.1) : Int)) then
 (bif !Op.bytesLess (List.getD b.1 (IntKind.i64.wrap (i3 - 1)).toNat dFoe).2 (List.getD b.1 (Int.toNat i3) dFoe).2 then
 (some false)
 else
 (next (IntKind.i64.wrap (i3 + 1)))) else none) else none)
 else
 (next (IntKind.i64.wrap (i3 + 1)))) else none) else none)) else none) else none)
 else
 (next (IntKind.i64.wrap (i3 + 1))))))) else none) else none)
 else
 (some true)
def f_1s_0 (N : Nat) (b : Book) : Nat → Int → Option Bool := lp (fun _ => none) fun next => f_1s_0r N b next
def f_1sb (N : Nat) (I0 : Book → Nat → Int → Option Bool) (b : Book) : Option Bool :=
 bif decide ((↑(List.length b.1) : Int) > 12) then
 (some false)
 else
 (I0 b N 0)
def f_1s (N : Nat) (b : Book) : Option Bool := f_1sb N (f_1s_0 N) b
def f_1f_0r (N : Nat) (list : List Txt) (next : Int → Option Bool) : Int → Option Bool := fun i5 =>
 bif decide (i5 < (↑list.length : Int)) then
 (bif decide (0 ≤ i5) then
 (bif decide (i5 < (↑list.length : Int)) then
 (ob (F.f_1q N (list.getD (Int.toNat i5) [])) false fun r =>
 bif !r then
 (some false)
 else
 (bif decide (i5 > 0) then
 (bif decide (0 ≤ IntKind.i64.wrap (i5 - 1)) then
 (bif decide (IntKind.i64.wrap (i5 - 1) < (↑list.length : Int)) then
 (bif decide (0 ≤ i5) then
 (bif decide (i5 < (↑list.length : Int)) then
 (bif !Op.bytesLess (list.getD (IntKind.i64.wrap (i5 - 1)).toNat []) (list.getD (Int.toNat i5) []) then
 (some false)
 else
 (next (IntKind.i64.wrap (i5 + 1)))) else none) else none) else none) else none)
 else
 (next (IntKind.i64.wrap (i5 + 1))))) else none) else none)
 else
 (some true)
def f_1f_0 (N : Nat) (list : List Txt) : Nat → Int → Option Bool := lp (fun _ => none) fun next => f_1f_0r N list next
def f_1fb (N : Nat) (I0 : (List Txt) → Nat → Int → Option Bool) (list : List Txt) (most : Int) : Option Bool :=
 bif decide ((↑list.length : Int) > most) then
 (some false)
 else
 (I0 list N 0)
def f_1f (N : Nat) (list : List Txt) (most : Int) : Option Bool := f_1fb N (f_1f_0 N) list most
def f_2g_0r (N : Nat) (b : Book) (x : Txt) (y : Txt) (next : Int → Option Bool) : Int → Option Bool := fun i7 =>
 bif decide (i7 < (↑(List.length b.1) : Int)) then
 (bif decide (0 ≤ i7) then
 (bif decide (i7 < (↑(List.length b.1) : Int)) then
 (bif (List.getD b.1 (Int.toNat i7) dFoe).1 == x then
 (bif decide (0 ≤ i7) then
 (bif decide (i7 < (↑(List.length b.1) : Int)) then
 (bif (List.getD b.1 (Int.toNat i7) dFoe).2 == y then
 (some true)
 else
 (bif decide (0 ≤ i7) then
 (bif decide (i7 < (↑(List.length b.1) : Int)) then
 (bif (List.getD b.1 (Int.toNat i7) dFoe).1 == y then
 (bif decide (0 ≤ i7) then
 (bif decide (i7 < (↑(List.length b.1) : Int)) then
 (bif (List.getD b.1 (Int.toNat i7) dFoe).2 == x then
 (some true)
 else
 (next (IntKind.i64.wrap (i7 + 1)))) else none) else none)
 else
 (next (IntKind.i64.wrap (i7 + 1)))) else none) else none)) else none) else none)
 else
 (bif decide (0 ≤ i7) then
 (bif decide (i7 < (↑(List.length b.1) : Int)) then
 (bif (List.getD b.1 (Int.toNat i7) dFoe).1 == y then
 (bif decide (0 ≤ i7) then
 (bif decide (i7 < (↑(List.length b.1) : Int)) then
 (bif (List.getD b.1 (Int.toNat i7) dFoe).2 == x then
 (some true)
 else
 (next (IntKind.i64.wrap (i7 + 1)))) else none) else none)
 else
 (next (IntKind.i64.wrap (i7 + 1)))) else none) else none)) else none) else none)
 else
 (some false)
def f_2g_0 (N : Nat) (b : Book) (x : Txt) (y : Txt) : Nat → Int → Option Bool := lp (fun _ => none) fun next => f_2g_0r N b x y next
def f_2gb (N : Nat) (I0 : Book → Txt → Txt → Nat → Int → Option Bool) (b : Book) (x : Txt) (y : Txt) : Option Bool :=
 I0 b x y N 0
def f_2g (N : Nat) (b : Book) (x : Txt) (y : Txt) : Option Bool := f_2gb N (f_2g_0 N) b x y
def f_22_0r (N : Nat) (b : Book) (stuff : Txt) (may : List Txt) (next : Int → Option Bool) : Int → Option Bool := fun i7 =>
 bif decide (i7 < (↑may.length : Int)) then
 (bif decide (0 ≤ i7) then
 (bif decide (i7 < (↑may.length : Int)) then
 (ob (F.f_2g N b stuff (may.getD (Int.toNat i7) [])) false fun r =>
 bif r then
 (some true)
 else
 (next (IntKind.i64.wrap (i7 + 1)))) else none) else none)
 else
 (some false)
def f_22_0 (N : Nat) (b : Book) (stuff : Txt) (may : List Txt) : Nat → Int → Option Bool := lp (fun _ => none) fun next => f_22_0r N b stuff may next
def f_22b (N : Nat) (I0 : Book → Txt → (List Txt) → Nat → Int → Option Bool) (b : Book) (stuff : Txt) (may : List Txt) : Option Bool :=
 I0 b stuff may N 0
def f_22 (N : Nat) (b : Book) (stuff : Txt) (may : List Txt) : Option Bool := f_22b N (f_22_0 N) b stuff may
def f_1u_0r (N : Nat) (b : Book) (s : Spot) (next : Int → Option Bool) : Int → Option Bool := fun i5 =>
 bif decide (i5 < (↑(List.length s.2.2.2.2) : Int)) then
 (bif decide (0 ≤ i5) then
 (bif decide (i5 < (↑(List.length s.2.2.2.2) : Int)) then
 (ob (F.f_22 N b (List.getD s.2.2.2.2 (Int.toNat i5) []) s.2.2.2.2) false fun r_4 =>
 bif r_4 then
 (some false)
 else
 (next (IntKind.i64.wrap (i5 + 1)))) else none) else none)
 else
 (some true)
def f_1u_0 (N : Nat) (b : Book) (s : Spot) : Nat → Int → Option Bool := lp (fun _ => none) fun next => f_1u_0r N b s next
def f_1ub (N : Nat) (I0 : Book → Spot → Nat → Int → Option Bool) (b : Book) (s : Spot) : Option Bool :=
 ob (F.f_1q N s.1) false fun r =>
 bif !r then
 (some false)
 else
 (ob (F.f_37 N s.2.1 0 1000) false fun r_1 =>
 bif !r_1 then
 (some false)
 else
 (ob (F.f_37 N s.2.2.1 0 s.2.2.2.1) false fun r_2 =>
 bif !r_2 then
 (some false)
 else
 (bif decide (s.2.2.2.1 > s.2.1) then
 (some false)
 else
 (ob (F.f_1f N s.2.2.2.2 8) false fun r_3 =>
 bif !r_3 then
 (some false)
 else
 (I0 b s N 0)))))
def f_1u (N : Nat) (b : Book) (s : Spot) : Option Bool := f_1ub N (f_1u_0 N) b s
def f_1r_0r (N : Nat) (w : Want) (next : Int → Option Bool) : Int → Option Bool := fun i3 =>
 bif decide (i3 < (↑(List.length w.2.2.2.1) : Int)) then
 (bif decide (0 ≤ i3) then
 (bif decide (i3 < (↑(List.length w.2.2.2.1) : Int)) then
 (ob (F.f_1q N (List.getD w.2.2.2.1 (Int.toNat i3) dUse).1) false fun r =>
 bif !r then
 (some false)
 else
 (bif decide (i3 > 0) then
 (bif decide (0 ≤ IntKind.i64.wrap (i3 - 1)) then
 (bif decide (IntKind.i64.wrap (i3 - 1) < (↑(List.length w.2.2.2.1) : Int)) then
 (bif !Op.bytesLess (List.getD w.2.2.2.1 (IntKind.i64.wrap (i3 - 1)).toNat dUse).1 (List.getD w.2.2.2.1 (Int.toNat i3) dUse).1 then
 (some false)
 else
 (ob (F.f_37 N (List.getD w.2.2.2.1 (Int.toNat i3) dUse).2.1 1 3) false fun r_1 =>
 bif !r_1 then
 (some false)
 else
 (bif (List.getD w.2.2.2.1 (Int.toNat i3) dUse).2.1 == 3 then
 (bif (List.getD w.2.2.2.1 (Int.toNat i3) dUse).2.2 != 0 then
 (some false)
 else
 (bif (List.getD w.2.2.2.1 (Int.toNat i3) dUse).2.1 != 3 then
 (bif w.2.1 != 1 then
 (some false)
 else
 (ob (F.f_37 N (List.getD w.2.2.2.1 (Int.toNat i3) dUse).2.2 1 1000) false fun r_2 =>
 bif !r_2 then
 (some false)
 else
 (next (IntKind.i64.wrap (i3 + 1)))))
 else
 (next (IntKind.i64.wrap (i3 + 1)))))
 else
 (bif (List.getD w.2.2.2.1 (Int.toNat i3) dUse).2.1 != 3 then
 (bif w.2.1 != 1 then
 (some false)
 else
 (ob (F.f_37 N (List.getD w.2.2.2.1 (Int.toNat i3) dUse).2.2 1 1000) false fun r_3 =>
 bif !r_3 then
 (some false)
 else
 (next (IntKind.i64.wrap (i3 + 1)))))
 else
 (next (IntKind.i64.wrap (i3 + 1))))))) else none) else none)
 else
 (ob (F.f_37 N (List.getD w.2.2.2.1 (Int.toNat i3) dUse).2.1 1 3) false fun r_4 =>
 bif !r_4 then
 (some false)
 else
 (bif (List.getD w.2.2.2.1 (Int.toNat i3) dUse).2.1 == 3 then
 (bif (List.getD w.2.2.2.1 (Int.toNat i3) dUse).2.2 != 0 then
 (some false)
 else
 (bif (List.getD w.2.2.2.1 (Int.toNat i3) dUse).2.1 != 3 then
 (bif w.2.1 != 1 then
 (some false)
 else
 (ob (F.f_37 N (List.getD w.2.2.2.1 (Int.toNat i3) dUse).2.2 1 1000) false fun r_5 =>
 bif !r_5 then
 (some false)
 else
 (next (IntKind.i64.wrap (i3 + 1)))))
 else
 (next (IntKind.i64.wrap (i3 + 1)))))
 else
 (bif (List.getD w.2.2.2.1 (Int.toNat i3) dUse).2.1 != 3 then
 (bif w.2.1 != 1 then
 (some false)
 else
 (ob (F.f_37 N (List.getD w.2.2.2.1 (Int.toNat i3) dUse).2.2 1 1000) false fun r_6 =>
 bif !r_6 then
 (some false)
 else
 (next (IntKind.i64.wrap (i3 + 1)))))
 else
 (next (IntKind.i64.wrap (i3 + 1)))))))) else none) else none)
 else
 (some true)
def f_1r_0 (N : Nat) (w : Want) : Nat → Int → Option Bool := lp (fun _ => none) fun next => f_1r_0r N w next
def f_1rb (N : Nat) (I0 : Want → Nat → Int → Option Bool) (w : Want) : Option Bool :=
 bif decide ((↑(List.length w.2.2.2.1) : Int) > 8) then
 (some false)
 else
 (I0 w N 0)
def f_1r (N : Nat) (w : Want) : Option Bool := f_1rb N (f_1r_0 N) w
def f_21_0r (N : Nat) (a : List Txt) (b : List Txt) (next : Int → Option Bool) : Int → Option Bool := fun i5 =>
 bif decide (i5 < (↑a.length : Int)) then
 (bif decide (0 ≤ i5) then
 (bif decide (i5 < (↑a.length : Int)) then
 (ob (F.f_2z N b (a.getD (Int.toNat i5) [])) false fun r =>
 bif r then
 (some true)
 else
 (next (IntKind.i64.wrap (i5 + 1)))) else none) else none)
 else
 (some false)
def f_21_0 (N : Nat) (a : List Txt) (b : List Txt) : Nat → Int → Option Bool := lp (fun _ => none) fun next => f_21_0r N a b next
def f_21b (N : Nat) (I0 : (List Txt) → (List Txt) → Nat → Int → Option Bool) (a : List Txt) (b : List Txt) : Option Bool :=
 I0 a b N 0
def f_21 (N : Nat) (a : List Txt) (b : List Txt) : Option Bool := f_21b N (f_21_0 N) a b
def f_11 (N : Nat) (w : Want) : Option Bool :=
 ob (F.f_37 N w.1 1 1000000) false fun r =>
 bif !r then
 (some false)
 else
 (ob (F.f_37 N w.2.1 1 3) false fun r_1 =>
 bif !r_1 then
 (some false)
 else
 (ob (F.f_1r N w) false fun r_2 =>
 bif !r_2 then
 (some false)
 else
 (ob (F.f_1f N w.2.2.2.2.1 12) false fun r_3 =>
 bif !r_3 then
 (some false)
 else
 (ob (F.f_1f N w.2.2.2.2.2 12) false fun r_4 =>
 bif !r_4 then
 (some false)
 else
 (ob (F.f_21 N w.2.2.2.2.1 w.2.2.2.2.2) false fun r_5 =>
 bif r_5 then
 (some false)
 else
 (bif IntKind.i64.wrap (IntKind.i64.wrap ((↑(List.length w.2.2.2.1) : Int) + (↑(List.length w.2.2.2.2.1) : Int)) + (↑(List.length w.2.2.2.2.2) : Int)) == 0 then
 (some false)
 else
 (bif w.2.1 != 1 then
 (bif decide ((↑(List.length w.2.2.2.2.1) : Int) > 0) then
 (some false)
 else
 (ob (F.f_1f N w.2.2.1 8) false fun r_6 =>
 bif r_6 then
 (some ((w.2.1 == 1) == decide ((↑(List.length w.2.2.1) : Int) > 0)))
 else
 (some false)))
 else
 (ob (F.f_1f N w.2.2.1 8) false fun r_7 =>
 bif r_7 then
 (some ((w.2.1 == 1) == decide ((↑(List.length w.2.2.1) : Int) > 0)))
 else
 (some false)))))))))
def f_2i_0r (N : Nat) (b : Book) (name : Txt) (next : Int → Option Int) : Int → Option Int := fun i5 =>
 bif decide (i5 < (↑(List.length b.2.1) : Int)) then
 (bif decide (0 ≤ i5) then
 (bif decide (i5 < (↑(List.length b.2.1) : Int)) then
 (bif (List.getD b.2.1 (Int.toNat i5) dSpot).1 == name then
 (some i5)
 else
 (next (IntKind.i64.wrap (i5 + 1)))) else none) else none)
 else
 (some (-1))
def f_2i_0 (N : Nat) (b : Book) (name : Txt) : Nat → Int → Option Int := lp (fun _ => none) fun next => f_2i_0r N b name next
def f_2ib (N : Nat) (I0 : Book → Txt → Nat → Int → Option Int) (b : Book) (name : Txt) : Option Int :=
 I0 b name N 0
def f_2i (N : Nat) (b : Book) (name : Txt) : Option Int := f_2ib N (f_2i_0 N) b name
def f_23_4r (N : Nat) (b : Book) (w : Want) (next : Int → Option Bool) : Int → Option Bool := fun i7 =>
 bif decide (i7 < (↑(List.length w.2.2.2.2.2) : Int)) then
 (bif decide (0 ≤ i7) then
 (bif decide (i7 < (↑(List.length w.2.2.2.2.2) : Int)) then
 (ob (F.f_2z N b.2.2.1 (List.getD w.2.2.2.2.2 (Int.toNat i7) [])) false fun r_2 =>
 bif !r_2 then
 (some false)
 else
 (next (IntKind.i64.wrap (i7 + 1)))) else none) else none)
 else
 (some true)
def f_23_4 (N : Nat) (b : Book) (w : Want) : Nat → Int → Option Bool := lp (fun _ => none) fun next => f_23_4r N b w next
def f_23_2r (N : Nat) (I0 : Book → Want → Nat → Int → Option Bool) (b : Book) (w : Want) (next : Int → Option Bool) : Int → Option Bool := fun i6 =>
 bif decide (i6 < (↑(List.length w.2.2.2.2.1) : Int)) then
 (bif decide (0 ≤ i6) then
 (bif decide (i6 < (↑(List.length w.2.2.2.2.1) : Int)) then
 (ob (F.f_2z N b.2.2.1 (List.getD w.2.2.2.2.1 (Int.toNat i6) [])) false fun r_1 =>
 bif !r_1 then
 (some false)
 else
 (next (IntKind.i64.wrap (i6 + 1)))) else none) else none)
 else
 (I0 b w N 0)
def f_23_2 (N : Nat) (b : Book) (w : Want) : Nat → Int → Option Bool := lp (fun _ => none) fun next => f_23_2r N (f_23_4 N) b w next
def f_23_0r (N : Nat) (I1 : Book → Want → Nat → Int → Option Bool) (b : Book) (w : Want) (next : Int → Option Bool) : Int → Option Bool := fun i5 =>
 bif decide (i5 < (↑(List.length w.2.2.2.1) : Int)) then
 (bif decide (0 ≤ i5) then
 (bif decide (i5 < (↑(List.length w.2.2.2.1) : Int)) then
 (ob (F.f_2i N b (List.getD w.2.2.2.1 (Int.toNat i5) dUse).1) (Int.ofNat 0) fun r =>
 bif decide (r < 0) then
 (some false)
 else
 (next (IntKind.i64.wrap (i5 + 1)))) else none) else none)
 else
 (I1 b w N 0)
def f_23_0 (N : Nat) (b : Book) (w : Want) : Nat → Int → Option Bool := lp (fun _ => none) fun next => f_23_0r N (f_23_2 N) b w next
def f_23b (N : Nat) (I2 : Book → Want → Nat → Int → Option Bool) (b : Book) (w : Want) : Option Bool :=
 I2 b w N 0
def f_23 (N : Nat) (b : Book) (w : Want) : Option Bool := f_23b N (f_23_0 N) b w
def f_2y_0r (N : Nat) (a : List Txt) (b : List Txt) (next : Int → Option Bool) : Int → Option Bool := fun i5 =>
 bif decide (i5 < (↑a.length : Int)) then
 (bif decide (0 ≤ i5) then
 (bif decide (i5 < (↑a.length : Int)) then
 (ob (F.f_2z N b (a.getD (Int.toNat i5) [])) false fun r =>
 bif !r then
 (some false)
 else
 (next (IntKind.i64.wrap (i5 + 1)))) else none) else none)
 else
 (some true)
def f_2y_0 (N : Nat) (a : List Txt) (b : List Txt) : Nat → Int → Option Bool := lp (fun _ => none) fun next => f_2y_0r N a b next
def f_2yb (N : Nat) (I0 : (List Txt) → (List Txt) → Nat → Int → Option Bool) (a : List Txt) (b : List Txt) : Option Bool :=
 I0 a b N 0
def f_2y (N : Nat) (a : List Txt) (b : List Txt) : Option Bool := f_2yb N (f_2y_0 N) a b
def f_24 (N : Nat) (s : Spot) (w : Want) (u : Use) : Option Bool :=
 bif w.2.1 == 2 then
 (bif decide (s.2.2.2.1 > 0) then
 (some false)
 else
 (bif w.2.1 == 1 then
 (bif u.2.1 != 2 then
 (ob (F.f_2y N s.2.2.2.2 w.2.2.1) false fun r =>
 bif !r then
 (some false)
 else
 (bif w.2.1 == 1 then
 (bif u.2.1 != 1 then
 (ob (F.f_2y N w.2.2.1 s.2.2.2.2) false fun r_1 =>
 bif !r_1 then
 (some false)
 else
 (some (decide (IntKind.i64.wrap (s.2.2.1 + u.2.2) ≤ s.2.2.2.1))))
 else
 (some (decide (IntKind.i64.wrap (s.2.2.1 + u.2.2) ≤ s.2.2.2.1))))
 else
 (some (decide (IntKind.i64.wrap (s.2.2.1 + u.2.2) ≤ s.2.2.2.1)))))
 else
 (bif w.2.1 == 1 then
 (bif u.2.1 != 1 then
 (ob (F.f_2y N w.2.2.1 s.2.2.2.2) false fun r_2 =>
 bif !r_2 then
 (some false)
 else
 (some (decide (IntKind.i64.wrap (s.2.2.1 + u.2.2) ≤ s.2.2.2.1))))
 else
 (some (decide (IntKind.i64.wrap (s.2.2.1 + u.2.2) ≤ s.2.2.2.1))))
 else
 (some (decide (IntKind.i64.wrap (s.2.2.1 + u.2.2) ≤ s.2.2.2.1)))))
 else
 (bif w.2.1 == 1 then
 (bif u.2.1 != 1 then
 (ob (F.f_2y N w.2.2.1 s.2.2.2.2) false fun r_3 =>
 bif !r_3 then
 (some false)
 else
 (some (decide (IntKind.i64.wrap (s.2.2.1 + u.2.2) ≤ s.2.2.2.1))))
 else
 (some (decide (IntKind.i64.wrap (s.2.2.1 + u.2.2) ≤ s.2.2.2.1))))
 else
 (some (decide (IntKind.i64.wrap (s.2.2.1 + u.2.2) ≤ s.2.2.2.1))))))
 else
 (bif w.2.1 == 1 then
 (bif u.2.1 != 2 then
 (ob (F.f_2y N s.2.2.2.2 w.2.2.1) false fun r_4 =>
 bif !r_4 then
 (some false)
 else
 (bif w.2.1 == 1 then
 (bif u.2.1 != 1 then
 (ob (F.f_2y N w.2.2.1 s.2.2.2.2) false fun r_5 =>
 bif !r_5 then
 (some false)
 else
 (some (decide (IntKind.i64.wrap (s.2.2.1 + u.2.2) ≤ s.2.2.2.1))))
 else
 (some (decide (IntKind.i64.wrap (s.2.2.1 + u.2.2) ≤ s.2.2.2.1))))
 else
 (some (decide (IntKind.i64.wrap (s.2.2.1 + u.2.2) ≤ s.2.2.2.1)))))
 else
 (bif w.2.1 == 1 then
 (bif u.2.1 != 1 then
 (ob (F.f_2y N w.2.2.1 s.2.2.2.2) false fun r_6 =>
 bif !r_6 then
 (some false)
 else
 (some (decide (IntKind.i64.wrap (s.2.2.1 + u.2.2) ≤ s.2.2.2.1))))
 else
 (some (decide (IntKind.i64.wrap (s.2.2.1 + u.2.2) ≤ s.2.2.2.1))))
 else
 (some (decide (IntKind.i64.wrap (s.2.2.1 + u.2.2) ≤ s.2.2.2.1)))))
 else
 (bif w.2.1 == 1 then
 (bif u.2.1 != 1 then
 (ob (F.f_2y N w.2.2.1 s.2.2.2.2) false fun r_7 =>
 bif !r_7 then
 (some false)
 else
 (some (decide (IntKind.i64.wrap (s.2.2.1 + u.2.2) ≤ s.2.2.2.1))))
 else
 (some (decide (IntKind.i64.wrap (s.2.2.1 + u.2.2) ≤ s.2.2.2.1))))
 else
 (some (decide (IntKind.i64.wrap (s.2.2.1 + u.2.2) ≤ s.2.2.2.1)))))
def f_1t_0r (N : Nat) (b : Book) (p : Part) (next : Int → Option Bool) : Int → Option Bool := fun i5 =>
 bif decide (i5 < (↑(List.length p.1.2.2.2.1) : Int)) then
 (bif decide (0 ≤ i5) then
 (bif decide (i5 < (↑(List.length p.1.2.2.2.1) : Int)) then
 (ob (F.f_2i N b (List.getD p.1.2.2.2.1 (Int.toNat i5) dUse).1) (Int.ofNat 0) fun r_2 =>
 bif decide (0 ≤ r_2) then
 (bif decide (r_2 < (↑(List.length b.2.1) : Int)) then
 (bif decide (0 ≤ i5) then
 (bif decide (i5 < (↑(List.length p.1.2.2.2.1) : Int)) then
 (ob (F.f_24 N (List.getD b.2.1 (Int.toNat r_2) dSpot) p.1 (List.getD p.1.2.2.2.1 (Int.toNat i5) dUse)) false fun r_3 =>
 bif !r_3 then
 (some false)
 else
 (next (IntKind.i64.wrap (i5 + 1)))) else none) else none) else none) else none) else none) else none)
 else
 (some true)
def f_1t_0 (N : Nat) (b : Book) (p : Part) : Nat → Int → Option Bool := lp (fun _ => none) fun next => f_1t_0r N b p next
def f_1tb (N : Nat) (I0 : Book → Part → Nat → Int → Option Bool) (b : Book) (p : Part) : Option Bool :=
 ob (F.f_11 N p.1) false fun r =>
 bif !r then
 (some false)
 else
 (bif decide (p.1.1 > b.2.2.2.2) then
 (some false)
 else
 (ob (F.f_23 N b p.1) false fun r_1 =>
 bif !r_1 then
 (some false)
 else
 (I0 b p N 0)))
def f_1t (N : Nat) (b : Book) (p : Part) : Option Bool := f_1tb N (f_1t_0 N) b p
def f_2j_0r (N : Nat) (w : Want) (next : Int → (List Txt) → Option (List Txt)) : Int → (List Txt) → Option (List Txt) := fun i4 out3a =>
 bif decide (i4 < (↑(List.length w.2.2.2.1) : Int)) then
 (bif decide (0 ≤ i4) then
 (bif decide (i4 < (↑(List.length w.2.2.2.1) : Int)) then
 (bif decide ((out3a.length + [(List.getD w.2.2.2.1 (Int.toNat i4) dUse).1].length) * 16 ≤ lim) then
 (next (IntKind.i64.wrap (i4 + 1)) (out3a ++ [(List.getD w.2.2.2.1 (Int.toNat i4) dUse).1])) else none) else none) else none)
 else
 (some out3a)
def f_2j_0 (N : Nat) (w : Want) : Nat → Int → (List Txt) → Option (List Txt) := lp (fun _ _ => none) fun next => f_2j_0r N w next
def f_2jb (N : Nat) (I0 : Want → Nat → Int → (List Txt) → Option (List Txt)) (w : Want) : Option (List Txt) :=
 I0 w N 0 []
def f_2j (N : Nat) (w : Want) : Option (List Txt) := f_2jb N (f_2j_0 N) w
def f_1i (N : Nat) (a : Want) (b : Want) : Option Bool :=
 ob (F.f_21 N a.2.2.2.2.1 b.2.2.2.2.1) false fun r =>
 bif r then
 (some true)
 else
 (ob (F.f_21 N a.2.2.2.2.1 b.2.2.2.2.2) false fun r_1 =>
 bif r_1 then
 (some true)
 else
 (ob (F.f_21 N a.2.2.2.2.2 b.2.2.2.2.1) false fun r_2 =>
 some r_2))
def f_1j_2r (N : Nat) (nx0 : Int → Option Bool) (b : Book) (i3 : Int) (w4c0 : Int) (w4c1 : Int) (w4c2 : List Txt) (w4c3 : List Use) (w4c4 : List Txt) (w4c5 : List Txt) (next : Int → Option Bool) : Int → Option Bool := fun k5 =>
 bif decide (k5 < i3) then
 (bif decide (0 ≤ k5) then
 (bif decide (k5 < (↑(List.length b.2.2.2.1) : Int)) then
 (ob (F.f_2j N (w4c0, w4c1, w4c2, w4c3, w4c4, w4c5)) [] fun r_1 =>
 ob (F.f_2j N (List.getD b.2.2.2.1 (Int.toNat k5) dPart).1) [] fun r_2 =>
 ob (F.f_21 N r_1 r_2) false fun r_3 =>
 bif r_3 then
 (some false)
 else
 (ob (F.f_1i N (w4c0, w4c1, w4c2, w4c3, w4c4, w4c5) (List.getD b.2.2.2.1 (Int.toNat k5) dPart).1) false fun r_4 =>
 bif r_4 then
 (some false)
 else
 (next (IntKind.i64.wrap (k5 + 1))))) else none) else none)
 else
 (nx0 (IntKind.i64.wrap (i3 + 1)))
def f_1j_2 (N : Nat) (nx0 : Int → Option Bool) (b : Book) (i3 : Int) (w4c0 : Int) (w4c1 : Int) (w4c2 : List Txt) (w4c3 : List Use) (w4c4 : List Txt) (w4c5 : List Txt) : Nat → Int → Option Bool := lp (fun _ => none) fun next => f_1j_2r N nx0 b i3 w4c0 w4c1 w4c2 w4c3 w4c4 w4c5 next
def f_1j_0r (N : Nat) (I0 : Int → Int → Int → (List Txt) → (List Use) → (List Txt) → (List Txt) → Nat → Int → Option Bool) (b : Book) (next : Int → Option Bool) : Int → Option Bool := fun i3 =>
 bif decide (i3 < (↑(List.length b.2.2.2.1) : Int)) then
 (bif decide (0 ≤ i3) then
 (bif decide (i3 < (↑(List.length b.2.2.2.1) : Int)) then
 (bif decide (0 ≤ i3) then
 (bif decide (i3 < (↑(List.length b.2.2.2.1) : Int)) then
 (ob (F.f_1t N b (List.getD b.2.2.2.1 (Int.toNat i3) dPart)) false fun r =>
 bif !r then
 (some false)
 else
 (bif decide (i3 > 0) then
 (bif decide (0 ≤ IntKind.i64.wrap (i3 - 1)) then
 (bif decide (IntKind.i64.wrap (i3 - 1) < (↑(List.length b.2.2.2.1) : Int)) then
 (bif decide ((List.getD b.2.2.2.1 (IntKind.i64.wrap (i3 - 1)).toNat dPart).1.1 ≥ (List.getD b.2.2.2.1 (Int.toNat i3) dPart).1.1) then
 (some false)
 else
 (I0 i3 ((List.getD b.2.2.2.1 (Int.toNat i3) dPart).1.1) ((List.getD b.2.2.2.1 (Int.toNat i3) dPart).1.2.1) ((List.getD b.2.2.2.1 (Int.toNat i3) dPart).1.2.2.1) ((List.getD b.2.2.2.1 (Int.toNat i3) dPart).1.2.2.2.1) ((List.getD b.2.2.2.1 (Int.toNat i3) dPart).1.2.2.2.2.1) ((List.getD b.2.2.2.1 (Int.toNat i3) dPart).1.2.2.2.2.2) N 0)) else none) else none)
 else
 (I0 i3 ((List.getD b.2.2.2.1 (Int.toNat i3) dPart).1.1) ((List.getD b.2.2.2.1 (Int.toNat i3) dPart).1.2.1) ((List.getD b.2.2.2.1 (Int.toNat i3) dPart).1.2.2.1) ((List.getD b.2.2.2.1 (Int.toNat i3) dPart).1.2.2.2.1) ((List.getD b.2.2.2.1 (Int.toNat i3) dPart).1.2.2.2.2.1) ((List.getD b.2.2.2.1 (Int.toNat i3) dPart).1.2.2.2.2.2) N 0))) else none) else none) else none) else none)
 else
 (some true)
def f_1j_0 (N : Nat) (b : Book) : Nat → Int → Option Bool := lp (fun _ => none) fun next => f_1j_0r N (f_1j_2 N next b) b next
def f_1jb (N : Nat) (I1 : Book → Nat → Int → Option Bool) (b : Book) : Option Bool :=
 bif decide ((↑(List.length b.2.2.2.1) : Int) > 6) then
 (some false)
 else
 (I1 b N 0)
def f_1j (N : Nat) (b : Book) : Option Bool := f_1jb N (f_1j_0 N) b
def f_10_0r (N : Nat) (b : Book) (next : Int → Option Bool) : Int → Option Bool := fun i3 =>
 bif decide (i3 < (↑(List.length b.2.1) : Int)) then
 (bif decide (0 ≤ i3) then
 (bif decide (i3 < (↑(List.length b.2.1) : Int)) then
 (ob (F.f_1u N b (List.getD b.2.1 (Int.toNat i3) dSpot)) false fun r_3 =>
 bif !r_3 then
 (some false)
 else
 (bif decide (i3 > 0) then
 (bif decide (0 ≤ IntKind.i64.wrap (i3 - 1)) then
 (bif decide (IntKind.i64.wrap (i3 - 1) < (↑(List.length b.2.1) : Int)) then
 (bif decide (0 ≤ i3) then
 (bif decide (i3 < (↑(List.length b.2.1) : Int)) then
 (bif !Op.bytesLess (List.getD b.2.1 (IntKind.i64.wrap (i3 - 1)).toNat dSpot).1 (List.getD b.2.1 (Int.toNat i3) dSpot).1 then
 (some false)
 else
 (next (IntKind.i64.wrap (i3 + 1)))) else none) else none) else none) else none)
 else
 (next (IntKind.i64.wrap (i3 + 1))))) else none) else none)
 else
 (ob (F.f_1j N b) false fun r_4 =>
 some r_4)
def f_10_0 (N : Nat) (b : Book) : Nat → Int → Option Bool := lp (fun _ => none) fun next => f_10_0r N b next
def f_10b (N : Nat) (I0 : Book → Nat → Int → Option Bool) (b : Book) : Option Bool :=
 ob (F.f_1s N b) false fun r =>
 bif !r then
 (some false)
 else
 (bif decide ((↑(List.length b.2.1) : Int) > 8) then
 (some false)
 else
 (ob (F.f_1f N b.2.2.1 12) false fun r_1 =>
 bif !r_1 then
 (some false)
 else
 (ob (F.f_37 N b.2.2.2.2 0 1000000) false fun r_2 =>
 bif !r_2 then
 (some false)
 else
 (I0 b N 0))))
def f_10 (N : Nat) (b : Book) : Option Bool := f_10b N (f_10_0 N) b
def f_2f_2r (N : Nat) (b : Book) (r : List Txt) (t2c4 : Int) (x3c0a : List Foe) (x3c1a : List Spot) (next : Int → (List Part) → Option Book) : Int → (List Part) → Option Book := fun i6 x3c3a =>
 bif decide (i6 < (↑(List.length b.2.2.2.1) : Int)) then
 (bif decide (0 ≤ i6) then
 (bif decide (i6 < (↑(List.length b.2.2.2.1) : Int)) then
 (ob (F.f_2e N (List.getD b.2.2.2.1 (Int.toNat i6) dPart).1) dWant fun r_2 =>
 bif decide (0 ≤ i6) then
 (bif decide (i6 < (↑(List.length b.2.2.2.1) : Int)) then
 (bif decide ((x3c3a.length + [(r_2, (List.getD b.2.2.2.1 (Int.toNat i6) dPart).2)].length) * 120 ≤ lim) then
 (next (IntKind.i64.wrap (i6 + 1)) (x3c3a ++ [(r_2, (List.getD b.2.2.2.1 (Int.toNat i6) dPart).2)])) else none) else none) else none) else none) else none)
 else
 (some (x3c0a, x3c1a, r, x3c3a, b.2.2.2.2))
def f_2f_2 (N : Nat) (b : Book) (r : List Txt) (t2c4 : Int) (x3c0a : List Foe) (x3c1a : List Spot) : Nat → Int → (List Part) → Option Book := lp (fun _ _ => none) fun next => f_2f_2r N b r t2c4 x3c0a x3c1a next
def f_2f_0r (N : Nat) (I0 : Book → (List Txt) → Int → (List Foe) → (List Spot) → Nat → Int → (List Part) → Option Book) (b : Book) (r : List Txt) (t2c4 : Int) (x3c0a : List Foe) (next : Int → (List Spot) → Option Book) : Int → (List Spot) → Option Book := fun i4 x3c1a =>
 bif decide (i4 < (↑(List.length b.2.1) : Int)) then
 (bif decide (0 ≤ i4) then
 (bif decide (i4 < (↑(List.length b.2.1) : Int)) then
 (ob (F.f_1z N (List.getD b.2.1 (Int.toNat i4) dSpot).2.2.2.2) [] fun r_1 =>
 bif decide ((x3c1a.length + [((List.getD b.2.1 (Int.toNat i4) dSpot).1, (List.getD b.2.1 (Int.toNat i4) dSpot).2.1, (List.getD b.2.1 (Int.toNat i4) dSpot).2.2.1, (List.getD b.2.1 (Int.toNat i4) dSpot).2.2.2.1, r_1)].length) * 64 ≤ lim) then
 (next (IntKind.i64.wrap (i4 + 1)) (x3c1a ++ [((List.getD b.2.1 (Int.toNat i4) dSpot).1, (List.getD b.2.1 (Int.toNat i4) dSpot).2.1, (List.getD b.2.1 (Int.toNat i4) dSpot).2.2.1, (List.getD b.2.1 (Int.toNat i4) dSpot).2.2.2.1, r_1)])) else none) else none) else none)
 else
 (I0 b r t2c4 x3c0a x3c1a N 0 [])
def f_2f_0 (N : Nat) (b : Book) (r : List Txt) (t2c4 : Int) (x3c0a : List Foe) : Nat → Int → (List Spot) → Option Book := lp (fun _ _ => none) fun next => f_2f_0r N (f_2f_2 N) b r t2c4 x3c0a next
def f_2fb (N : Nat) (I1 : Book → (List Txt) → Int → (List Foe) → Nat → Int → (List Spot) → Option Book) (b : Book) : Option Book :=
 bif decide ((0 + List.length b.1) * 32 ≤ lim) then
 (ob (F.f_1z N b.2.2.1) [] fun r =>
 I1 b r 0 ([] ++ b.1) N 0 []) else none
def f_2f (N : Nat) (b : Book) : Option Book := f_2fb N (f_2f_0 N) b
def f_1e (N : Nat) (b : Book) (number : Int) : Option (Book × Int) :=
 ob (F.f_10 N b) false fun r =>
 bif !r then
 (some (([], [], [], [], 0), 1))
 else
 (ob (F.f_2f N b) ([], [], [], [], Int.ofNat 0) fun r_1 =>
 ob (F.f_2h N b number) (Int.ofNat 0) fun r_2 =>
 bif decide (r_2 < 0) then
 (some (r_1, 3))
 else
 (bif decide (0 ≤ r_2) then
 (bif decide (r_2 < (↑(List.length r_1.2.2.2.1) : Int)) then
 (let t1835as : List Part := List.set r_1.2.2.2.1 (Int.toNat r_2) ((List.getD r_1.2.2.2.1 (Int.toNat r_2) dPart).1, true)
 some ((r_1.1, r_1.2.1, r_1.2.2.1, t1835as, r_1.2.2.2.2), 0)) else none) else none))
def f_26_0r (N : Nat) (w : Want) (moved : Int) (next : Int → Option Bool) : Int → Option Bool := fun i5 =>
 bif decide (i5 < (↑(List.length w.2.2.2.1) : Int)) then
 (bif decide (0 ≤ i5) then
 (bif decide (i5 < (↑(List.length w.2.2.2.1) : Int)) then
 (bif (List.getD w.2.2.2.1 (Int.toNat i5) dUse).2.1 != 3 then
 (bif decide (0 ≤ i5) then
 (bif decide (i5 < (↑(List.length w.2.2.2.1) : Int)) then
 (bif decide (moved > (List.getD w.2.2.2.1 (Int.toNat i5) dUse).2.2) then
 (some false)
 else
 (next (IntKind.i64.wrap (i5 + 1)))) else none) else none)
 else
 (next (IntKind.i64.wrap (i5 + 1)))) else none) else none)
 else
 (some true)
def f_26_0 (N : Nat) (w : Want) (moved : Int) : Nat → Int → Option Bool := lp (fun _ => none) fun next => f_26_0r N w moved next
def f_26b (N : Nat) (I0 : Want → Int → Nat → Int → Option Bool) (w : Want) (moved : Int) : Option Bool :=
 bif decide (moved < 0) then
 (some false)
 else
 (I0 w moved N 0)
def f_26 (N : Nat) (w : Want) (moved : Int) : Option Bool := f_26b N (f_26_0 N) w moved
def f_1x (N : Nat) (s : Spot) (w : Want) (u : Use) (moved : Int) (done : Bool) : Option Spot :=
 bif u.2.1 == 1 then
 (bif u.2.1 == 2 then
 (bif w.2.1 == 2 then
 (bif done then
 (some (s.1, s.2.1, IntKind.i64.wrap (IntKind.i64.wrap (IntKind.i64.wrap (s.2.2.1 + u.2.2) - moved) + moved), IntKind.i64.wrap (IntKind.i64.wrap (IntKind.i64.wrap (s.2.2.2.1 - moved) - u.2.2) + moved), []))
 else
 (some (s.1, s.2.1, IntKind.i64.wrap (IntKind.i64.wrap (IntKind.i64.wrap (s.2.2.1 + u.2.2) - moved) + moved), IntKind.i64.wrap (IntKind.i64.wrap (IntKind.i64.wrap (s.2.2.2.1 - moved) - u.2.2) + moved), s.2.2.2.2)))
 else
 (some (s.1, s.2.1, IntKind.i64.wrap (IntKind.i64.wrap (IntKind.i64.wrap (s.2.2.1 + u.2.2) - moved) + moved), IntKind.i64.wrap (IntKind.i64.wrap (IntKind.i64.wrap (s.2.2.2.1 - moved) - u.2.2) + moved), s.2.2.2.2)))
 else
 (bif w.2.1 == 2 then
 (bif done then
 (some (s.1, s.2.1, IntKind.i64.wrap (IntKind.i64.wrap (s.2.2.1 + u.2.2) - moved), IntKind.i64.wrap (s.2.2.2.1 - moved), []))
 else
 (some (s.1, s.2.1, IntKind.i64.wrap (IntKind.i64.wrap (s.2.2.1 + u.2.2) - moved), IntKind.i64.wrap (s.2.2.2.1 - moved), s.2.2.2.2)))
 else
 (some (s.1, s.2.1, IntKind.i64.wrap (IntKind.i64.wrap (s.2.2.1 + u.2.2) - moved), IntKind.i64.wrap (s.2.2.2.1 - moved), s.2.2.2.2))))
 else
 (bif u.2.1 == 2 then
 (bif w.2.1 == 2 then
 (bif done then
 (some (s.1, s.2.1, IntKind.i64.wrap (s.2.2.1 + moved), IntKind.i64.wrap (IntKind.i64.wrap (s.2.2.2.1 - u.2.2) + moved), []))
 else
 (some (s.1, s.2.1, IntKind.i64.wrap (s.2.2.1 + moved), IntKind.i64.wrap (IntKind.i64.wrap (s.2.2.2.1 - u.2.2) + moved), s.2.2.2.2)))
 else
 (some (s.1, s.2.1, IntKind.i64.wrap (s.2.2.1 + moved), IntKind.i64.wrap (IntKind.i64.wrap (s.2.2.2.1 - u.2.2) + moved), s.2.2.2.2)))
 else
 (bif w.2.1 == 2 then
 (bif done then
 (some (s.1, s.2.1, s.2.2.1, s.2.2.2.1, []))
 else
 (some s))
 else
 (some s)))
def f_1c_0r (N : Nat) (b : Book) (moved : Int) (done : Bool) (r_1 : Book) (r_2 : Int) (t8c4 : Int) (w12c0 : Int) (w12c1 : Int) (w12c2 : List Txt) (w12c3 : List Use) (w12c4 : List Txt) (w12c5 : List Txt) (next : Int → (List Spot) → Option (Book × Int)) : Int → (List Spot) → Option (Book × Int) := fun i13 x10c1a =>
 bif decide (i13 < (↑(List.length w12c3) : Int)) then
 (bif decide (0 ≤ i13) then
 (bif decide (i13 < (↑(List.length w12c3) : Int)) then
 (ob (F.f_2i N b (List.getD w12c3 (Int.toNat i13) dUse).1) (Int.ofNat 0) fun r_7 =>
 bif decide (0 ≤ r_7) then
 (bif decide (r_7 < (↑x10c1a.length : Int)) then
 (bif decide (0 ≤ i13) then
 (bif decide (i13 < (↑(List.length w12c3) : Int)) then
 (ob (F.f_1x N (x10c1a.getD (Int.toNat r_7) dSpot) (w12c0, w12c1, w12c2, w12c3, w12c4, w12c5) (List.getD w12c3 (Int.toNat i13) dUse) moved done) dSpot fun r_8 =>
 bif decide (0 ≤ r_7) then
 (bif decide (r_7 < (↑x10c1a.length : Int)) then
 (let x10c1as_1 : List Spot := x10c1a.set (Int.toNat r_7) r_8
 next (IntKind.i64.wrap (i13 + 1)) x10c1as_1) else none) else none) else none) else none) else none) else none) else none) else none)
 else
 (bif decide (0 ≤ r_2) then
 (bif decide (r_2 ≤ (↑(List.length r_1.2.2.2.1) : Int)) then
 (bif decide ((0 + (List.drop (Int.toNat 0) (List.take (Int.toNat r_2) r_1.2.2.2.1)).length) * 120 ≤ lim) then
 (bif decide (0 ≤ IntKind.i64.wrap (r_2 + 1)) then
 (bif decide (IntKind.i64.wrap (r_2 + 1) ≤ (↑(List.length r_1.2.2.2.1) : Int)) then
 (bif decide ((↑(List.length r_1.2.2.2.1) : Int) ≤ (↑(List.length r_1.2.2.2.1) : Int)) then
 (bif decide ((([] ++ List.drop (Int.toNat 0) (List.take (Int.toNat r_2) r_1.2.2.2.1)).length + (List.drop (IntKind.i64.wrap (r_2 + 1)).toNat (List.take (↑(List.length r_1.2.2.2.1) : Int).toNat r_1.2.2.2.1)).length) * 120 ≤ lim) then
 (ob (F.f_2f N (r_1.1, x10c1a, r_1.2.2.1, [] ++ List.drop (Int.toNat 0) (List.take (Int.toNat r_2) r_1.2.2.2.1) ++ List.drop (IntKind.i64.wrap (r_2 + 1)).toNat (List.take (↑(List.length r_1.2.2.2.1) : Int).toNat r_1.2.2.2.1), r_1.2.2.2.2)) ([], [], [], [], Int.ofNat 0) fun r_9 =>
 some (r_9, 0)) else none) else none) else none) else none) else none) else none) else none)
def f_1c_0 (N : Nat) (b : Book) (moved : Int) (done : Bool) (r_1 : Book) (r_2 : Int) (t8c4 : Int) (w12c0 : Int) (w12c1 : Int) (w12c2 : List Txt) (w12c3 : List Use) (w12c4 : List Txt) (w12c5 : List Txt) : Nat → Int → (List Spot) → Option (Book × Int) := lp (fun _ _ => none) fun next => f_1c_0r N b moved done r_1 r_2 t8c4 w12c0 w12c1 w12c2 w12c3 w12c4 w12c5 next
def f_1cb (N : Nat) (I0 : Book → Int → Bool → Book → Int → Int → Int → Int → (List Txt) → (List Use) → (List Txt) → (List Txt) → Nat → Int → (List Spot) → Option (Book × Int)) (b : Book) (number : Int) (moved : Int) (done : Bool) : Option (Book × Int) :=
 ob (F.f_10 N b) false fun r =>
 bif !r then
 (some (([], [], [], [], 0), 1))
 else
 (ob (F.f_2f N b) ([], [], [], [], Int.ofNat 0) fun r_1 =>
 ob (F.f_2h N b number) (Int.ofNat 0) fun r_2 =>
 bif decide (r_2 < 0) then
 (some (r_1, 3))
 else
 (bif decide (0 ≤ r_2) then
 (bif decide (r_2 < (↑(List.length b.2.2.2.1) : Int)) then
 (ob (F.f_26 N (List.getD b.2.2.2.1 (Int.toNat r_2) dPart).1 moved) false fun r_3 =>
 bif !r_3 then
 (some (r_1, 2))
 else
 (bif decide (0 ≤ r_2) then
 (bif decide (r_2 < (↑(List.length b.2.2.2.1) : Int)) then
 (bif !(List.getD b.2.2.2.1 (Int.toNat r_2) dPart).2 then
 (some (r_1, 12))
 else
 (I0 b moved done r_1 r_2 0 ((List.getD b.2.2.2.1 (Int.toNat r_2) dPart).1.1) ((List.getD b.2.2.2.1 (Int.toNat r_2) dPart).1.2.1) ((List.getD b.2.2.2.1 (Int.toNat r_2) dPart).1.2.2.1) ((List.getD b.2.2.2.1 (Int.toNat r_2) dPart).1.2.2.2.1) ((List.getD b.2.2.2.1 (Int.toNat r_2) dPart).1.2.2.2.2.1) ((List.getD b.2.2.2.1 (Int.toNat r_2) dPart).1.2.2.2.2.2) N 0 r_1.2.1)) else none) else none)) else none) else none))
def f_1c (N : Nat) (b : Book) (number : Int) (moved : Int) (done : Bool) : Option (Book × Int) := f_1cb N (f_1c_0 N) b number moved done
def f_1y_0r (N : Nat) (a : List Txt) (b : List Txt) (next : Int → Option Bool) : Int → Option Bool := fun i5 =>
 bif decide (i5 < (↑a.length : Int)) then
 (bif decide (0 ≤ i5) then
 (bif decide (i5 < (↑a.length : Int)) then
 (bif decide (0 ≤ i5) then
 (bif decide (i5 < (↑b.length : Int)) then
 (bif !a.getD (Int.toNat i5) [] == b.getD (Int.toNat i5) [] then
 (some false)
 else
 (next (IntKind.i64.wrap (i5 + 1)))) else none) else none) else none) else none)
 else
 (some true)
def f_1y_0 (N : Nat) (a : List Txt) (b : List Txt) : Nat → Int → Option Bool := lp (fun _ => none) fun next => f_1y_0r N a b next
def f_1yb (N : Nat) (I0 : (List Txt) → (List Txt) → Nat → Int → Option Bool) (a : List Txt) (b : List Txt) : Option Bool :=
 bif (↑a.length : Int) != (↑b.length : Int) then
 (some false)
 else
 (I0 a b N 0)
def f_1y (N : Nat) (a : List Txt) (b : List Txt) : Option Bool := f_1yb N (f_1y_0 N) a b
def f_2d_0r (N : Nat) (a : Want) (b : Want) (next : Int → Option Bool) : Int → Option Bool := fun i5 =>
 bif decide (i5 < (↑(List.length a.2.2.2.1) : Int)) then
 (bif decide (0 ≤ i5) then
 (bif decide (i5 < (↑(List.length a.2.2.2.1) : Int)) then
 (bif decide (0 ≤ i5) then
 (bif decide (i5 < (↑(List.length b.2.2.2.1) : Int)) then
 (bif !((List.getD a.2.2.2.1 (Int.toNat i5) dUse).1 == (List.getD b.2.2.2.1 (Int.toNat i5) dUse).1 && ((List.getD a.2.2.2.1 (Int.toNat i5) dUse).2.1 == (List.getD b.2.2.2.1 (Int.toNat i5) dUse).2.1 && ((List.getD a.2.2.2.1 (Int.toNat i5) dUse).2.2 == (List.getD b.2.2.2.1 (Int.toNat i5) dUse).2.2 && true))) then
 (some false)
 else
 (next (IntKind.i64.wrap (i5 + 1)))) else none) else none) else none) else none)
 else
 (some true)
def f_2d_0 (N : Nat) (a : Want) (b : Want) : Nat → Int → Option Bool := lp (fun _ => none) fun next => f_2d_0r N a b next
def f_2db (N : Nat) (I0 : Want → Want → Nat → Int → Option Bool) (a : Want) (b : Want) : Option Bool :=
 bif a.1 != b.1 then
 (some false)
 else
 (bif a.2.1 != b.2.1 then
 (some false)
 else
 (bif (↑(List.length a.2.2.2.1) : Int) != (↑(List.length b.2.2.2.1) : Int) then
 (some false)
 else
 (ob (F.f_1y N a.2.2.1 b.2.2.1) false fun r =>
 bif !r then
 (some false)
 else
 (ob (F.f_1y N a.2.2.2.2.1 b.2.2.2.2.1) false fun r_1 =>
 bif !r_1 then
 (some false)
 else
 (ob (F.f_1y N a.2.2.2.2.2 b.2.2.2.2.2) false fun r_2 =>
 bif !r_2 then
 (some false)
 else
 (I0 a b N 0))))))
def f_2d (N : Nat) (a : Want) (b : Want) : Option Bool := f_2db N (f_2d_0 N) a b
def f_1h_0r (N : Nat) (b : Book) (x : List Txt) (y : List Txt) (next : Int → Option Bool) : Int → Option Bool := fun i7 =>
 bif decide (i7 < (↑x.length : Int)) then
 (bif decide (0 ≤ i7) then
 (bif decide (i7 < (↑x.length : Int)) then
 (ob (F.f_22 N b (x.getD (Int.toNat i7) []) y) false fun r =>
 bif r then
 (some true)
 else
 (next (IntKind.i64.wrap (i7 + 1)))) else none) else none)
 else
 (some false)
def f_1h_0 (N : Nat) (b : Book) (x : List Txt) (y : List Txt) : Nat → Int → Option Bool := lp (fun _ => none) fun next => f_1h_0r N b x y next
def f_1hb (N : Nat) (I0 : Book → (List Txt) → (List Txt) → Nat → Int → Option Bool) (b : Book) (x : List Txt) (y : List Txt) : Option Bool :=
 I0 b x y N 0
def f_1h (N : Nat) (b : Book) (x : List Txt) (y : List Txt) : Option Bool := f_1hb N (f_1h_0 N) b x y
def f_25_0r (N : Nat) (a : List Txt) (b : List Txt) (next : Int → Int → Option Int) : Int → Int → Option Int := fun n5 i6 =>
 bif decide (i6 < (↑b.length : Int)) then
 (bif decide (0 ≤ i6) then
 (bif decide (i6 < (↑b.length : Int)) then
 (ob (F.f_2z N a (b.getD (Int.toNat i6) [])) false fun r =>
 bif !r then
 (next (IntKind.i64.wrap (n5 + 1)) (IntKind.i64.wrap (i6 + 1)))
 else
 (next n5 (IntKind.i64.wrap (i6 + 1)))) else none) else none)
 else
 (some n5)
def f_25_0 (N : Nat) (a : List Txt) (b : List Txt) : Nat → Int → Int → Option Int := lp (fun _ _ => none) fun next => f_25_0r N a b next
def f_25b (N : Nat) (I0 : (List Txt) → (List Txt) → Nat → Int → Int → Option Int) (a : List Txt) (b : List Txt) : Option Int :=
 I0 a b N (↑a.length : Int) 0
def f_25 (N : Nat) (a : List Txt) (b : List Txt) : Option Int := f_25b N (f_25_0 N) a b
def f_1w_0r (N : Nat) (b : Book) (w : Want) (next : Int → Option Int) : Int → Option Int := fun i5 =>
 bif decide (i5 < (↑(List.length w.2.2.2.1) : Int)) then
 (bif w.2.1 == 1 then
 (bif decide (0 ≤ i5) then
 (bif decide (i5 < (↑(List.length w.2.2.2.1) : Int)) then
 (ob (F.f_2i N b (List.getD w.2.2.2.1 (Int.toNat i5) dUse).1) (Int.ofNat 0) fun r_1 =>
 bif decide (0 ≤ r_1) then
 (bif decide (r_1 < (↑(List.length b.2.1) : Int)) then
 (bif decide (0 ≤ i5) then
 (bif decide (i5 < (↑(List.length w.2.2.2.1) : Int)) then
 (bif (List.getD w.2.2.2.1 (Int.toNat i5) dUse).2.1 != 2 then
 (ob (F.f_2y N (List.getD b.2.1 (Int.toNat r_1) dSpot).2.2.2.2 w.2.2.1) false fun r_2 =>
 bif !r_2 then
 (some 8)
 else
 (bif decide (0 ≤ i5) then
 (bif decide (i5 < (↑(List.length w.2.2.2.1) : Int)) then
 (bif (List.getD w.2.2.2.1 (Int.toNat i5) dUse).2.1 == 2 then
 (ob (F.f_1h N b w.2.2.1 (List.getD b.2.1 (Int.toNat r_1) dSpot).2.2.2.2) false fun r_3 =>
 bif r_3 then
 (some 8)
 else
 (bif decide (0 ≤ i5) then
 (bif decide (i5 < (↑(List.length w.2.2.2.1) : Int)) then
 (bif (List.getD w.2.2.2.1 (Int.toNat i5) dUse).2.1 == 2 then
 (ob (F.f_25 N (List.getD b.2.1 (Int.toNat r_1) dSpot).2.2.2.2 w.2.2.1) (Int.ofNat 0) fun r_4 =>
 bif decide (r_4 > 8) then
 (some 5)
 else
 (next (IntKind.i64.wrap (i5 + 1))))
 else
 (next (IntKind.i64.wrap (i5 + 1)))) else none) else none))
 else
 (bif decide (0 ≤ i5) then
 (bif decide (i5 < (↑(List.length w.2.2.2.1) : Int)) then
 (bif (List.getD w.2.2.2.1 (Int.toNat i5) dUse).2.1 == 2 then
 (ob (F.f_25 N (List.getD b.2.1 (Int.toNat r_1) dSpot).2.2.2.2 w.2.2.1) (Int.ofNat 0) fun r_5 =>
 bif decide (r_5 > 8) then
 (some 5)
 else
 (next (IntKind.i64.wrap (i5 + 1))))
 else
 (next (IntKind.i64.wrap (i5 + 1)))) else none) else none)) else none) else none))
 else
 (bif decide (0 ≤ i5) then
 (bif decide (i5 < (↑(List.length w.2.2.2.1) : Int)) then
 (bif (List.getD w.2.2.2.1 (Int.toNat i5) dUse).2.1 == 2 then
 (ob (F.f_1h N b w.2.2.1 (List.getD b.2.1 (Int.toNat r_1) dSpot).2.2.2.2) false fun r_6 =>
 bif r_6 then
 (some 8)
 else
 (bif decide (0 ≤ i5) then
 (bif decide (i5 < (↑(List.length w.2.2.2.1) : Int)) then
 (bif (List.getD w.2.2.2.1 (Int.toNat i5) dUse).2.1 == 2 then
 (ob (F.f_25 N (List.getD b.2.1 (Int.toNat r_1) dSpot).2.2.2.2 w.2.2.1) (Int.ofNat 0) fun r_7 =>
 bif decide (r_7 > 8) then
 (some 5)
 else
 (next (IntKind.i64.wrap (i5 + 1))))
 else
 (next (IntKind.i64.wrap (i5 + 1)))) else none) else none))
 else
 (bif decide (0 ≤ i5) then
 (bif decide (i5 < (↑(List.length w.2.2.2.1) : Int)) then
 (bif (List.getD w.2.2.2.1 (Int.toNat i5) dUse).2.1 == 2 then
 (ob (F.f_25 N (List.getD b.2.1 (Int.toNat r_1) dSpot).2.2.2.2 w.2.2.1) (Int.ofNat 0) fun r_8 =>
 bif decide (r_8 > 8) then
 (some 5)
 else
 (next (IntKind.i64.wrap (i5 + 1))))
 else
 (next (IntKind.i64.wrap (i5 + 1)))) else none) else none)) else none) else none)) else none) else none) else none) else none) else none) else none)
 else
 (some 0))
 else
 (some 0)
def f_1w_0 (N : Nat) (b : Book) (w : Want) : Nat → Int → Option Int := lp (fun _ => none) fun next => f_1w_0r N b w next
def f_1wb (N : Nat) (I0 : Book → Want → Nat → Int → Option Int) (b : Book) (w : Want) : Option Int :=
 ob (F.f_1h N b w.2.2.1 w.2.2.1) false fun r =>
 bif r then
 (some 8)
 else
 (I0 b w N 0)
def f_1w (N : Nat) (b : Book) (w : Want) : Option Int := f_1wb N (f_1w_0 N) b w
def f_1k_0r (N : Nat) (b : Book) (w : Want) (next : Int → Option Int) : Int → Option Int := fun i5 =>
 bif decide (i5 < (↑(List.length w.2.2.2.1) : Int)) then
 (bif decide (0 ≤ i5) then
 (bif decide (i5 < (↑(List.length w.2.2.2.1) : Int)) then
 (ob (F.f_2i N b (List.getD w.2.2.2.1 (Int.toNat i5) dUse).1) (Int.ofNat 0) fun r =>
 bif decide (0 ≤ r) then
 (bif decide (r < (↑(List.length b.2.1) : Int)) then
 (bif decide (0 ≤ i5) then
 (bif decide (i5 < (↑(List.length w.2.2.2.1) : Int)) then
 (bif (List.getD w.2.2.2.1 (Int.toNat i5) dUse).2.1 == 1 then
 (bif decide ((List.getD b.2.1 (Int.toNat r) dSpot).2.2.1 < (List.getD w.2.2.2.1 (Int.toNat i5) dUse).2.2) then
 (some 9)
 else
 (bif (List.getD w.2.2.2.1 (Int.toNat i5) dUse).2.1 == 2 then
 (bif decide (IntKind.i64.wrap ((List.getD b.2.1 (Int.toNat r) dSpot).2.2.2.1 + (List.getD w.2.2.2.1 (Int.toNat i5) dUse).2.2) > (List.getD b.2.1 (Int.toNat r) dSpot).2.1) then
 (some 10)
 else
 (bif w.2.1 == 2 then
 (bif decide ((List.getD b.2.1 (Int.toNat r) dSpot).2.2.2.1 > 0) then
 (some 11)
 else
 (next (IntKind.i64.wrap (i5 + 1))))
 else
 (next (IntKind.i64.wrap (i5 + 1)))))
 else
 (bif w.2.1 == 2 then
 (bif decide ((List.getD b.2.1 (Int.toNat r) dSpot).2.2.2.1 > 0) then
 (some 11)
 else
 (next (IntKind.i64.wrap (i5 + 1))))
 else
 (next (IntKind.i64.wrap (i5 + 1))))))
 else
 (bif (List.getD w.2.2.2.1 (Int.toNat i5) dUse).2.1 == 2 then
 (bif decide (IntKind.i64.wrap ((List.getD b.2.1 (Int.toNat r) dSpot).2.2.2.1 + (List.getD w.2.2.2.1 (Int.toNat i5) dUse).2.2) > (List.getD b.2.1 (Int.toNat r) dSpot).2.1) then
 (some 10)
 else
 (bif w.2.1 == 2 then
 (bif decide ((List.getD b.2.1 (Int.toNat r) dSpot).2.2.2.1 > 0) then
 (some 11)
 else
 (next (IntKind.i64.wrap (i5 + 1))))
 else
 (next (IntKind.i64.wrap (i5 + 1)))))
 else
 (bif w.2.1 == 2 then
 (bif decide ((List.getD b.2.1 (Int.toNat r) dSpot).2.2.2.1 > 0) then
 (some 11)
 else
 (next (IntKind.i64.wrap (i5 + 1))))
 else
 (next (IntKind.i64.wrap (i5 + 1)))))) else none) else none) else none) else none) else none) else none)
 else
 (some 0)
def f_1k_0 (N : Nat) (b : Book) (w : Want) : Nat → Int → Option Int := lp (fun _ => none) fun next => f_1k_0r N b w next
def f_1kb (N : Nat) (I0 : Book → Want → Nat → Int → Option Int) (b : Book) (w : Want) : Option Int :=
 I0 b w N 0
def f_1k (N : Nat) (b : Book) (w : Want) : Option Int := f_1kb N (f_1k_0 N) b w
def f_1b_2r (N : Nat) (b : Book) (w : Want) (next : Int → Option Int) : Int → Option Int := fun i7 =>
 bif decide (i7 < (↑(List.length b.2.2.2.1) : Int)) then
 (bif decide (0 ≤ i7) then
 (bif decide (i7 < (↑(List.length b.2.2.2.1) : Int)) then
 (ob (F.f_1i N w (List.getD b.2.2.2.1 (Int.toNat i7) dPart).1) false fun r_8 =>
 bif r_8 then
 (some 7)
 else
 (next (IntKind.i64.wrap (i7 + 1)))) else none) else none)
 else
 (ob (F.f_1w N b w) (Int.ofNat 0) fun r_9 =>
 bif r_9 != 0 then
 (some r_9)
 else
 (ob (F.f_1k N b w) (Int.ofNat 0) fun r_10 =>
 some r_10))
def f_1b_2 (N : Nat) (b : Book) (w : Want) : Nat → Int → Option Int := lp (fun _ => none) fun next => f_1b_2r N b w next
def f_1b_0r (N : Nat) (I0 : Book → Want → Nat → Int → Option Int) (b : Book) (w : Want) (next : Int → Option Int) : Int → Option Int := fun i6 =>
 bif decide (i6 < (↑(List.length b.2.2.2.1) : Int)) then
 (ob (F.f_2j N w) [] fun r_5 =>
 bif decide (0 ≤ i6) then
 (bif decide (i6 < (↑(List.length b.2.2.2.1) : Int)) then
 (ob (F.f_2j N (List.getD b.2.2.2.1 (Int.toNat i6) dPart).1) [] fun r_6 =>
 ob (F.f_21 N r_5 r_6) false fun r_7 =>
 bif r_7 then
 (some 6)
 else
 (next (IntKind.i64.wrap (i6 + 1)))) else none) else none)
 else
 (I0 b w N 0)
def f_1b_0 (N : Nat) (b : Book) (w : Want) : Nat → Int → Option Int := lp (fun _ => none) fun next => f_1b_0r N (f_1b_2 N) b w next
def f_1bb (N : Nat) (I1 : Book → Want → Nat → Int → Option Int) (b : Book) (w : Want) : Option Int :=
 ob (F.f_10 N b) false fun r =>
 bif !r then
 (some 1)
 else
 (ob (F.f_11 N w) false fun r_1 =>
 bif !r_1 then
 (some 2)
 else
 (ob (F.f_23 N b w) false fun r_2 =>
 bif !r_2 then
 (some 2)
 else
 (ob (F.f_2h N b w.1) (Int.ofNat 0) fun r_3 =>
 bif decide (r_3 ≥ 0) then
 (bif decide (0 ≤ r_3) then
 (bif decide (r_3 < (↑(List.length b.2.2.2.1) : Int)) then
 (ob (F.f_2d N (List.getD b.2.2.2.1 (Int.toNat r_3) dPart).1 w) false fun r_4 =>
 bif r_4 then
 (some 0)
 else
 (some 3)) else none) else none)
 else
 (bif decide (w.1 ≤ b.2.2.2.2) then
 (some 4)
 else
 (bif decide ((↑(List.length b.2.2.2.1) : Int) ≥ 6) then
 (some 5)
 else
 (I1 b w N 0))))))
def f_1b (N : Nat) (b : Book) (w : Want) : Option Int := f_1bb N (f_1b_0 N) b w
def f_30_2r (N : Nat) (nx0 : Int → (List Spot) → Option Book) (b0 : List Foe) (b2 : List Txt) (b3 : List Part) (b4 : Int) (w : Want) (t4c4 : Int) (i5 : Int) (r_4 : Int) (u6c0_1 : Txt) (u6c1_1 : Int) (u6c2_1 : Int) (next : Int → (List Spot) → Option Book) : Int → (List Spot) → Option Book := fun n8_1 b2c1a_2 =>
 bif decide (n8_1 < (↑(List.length w.2.2.1) : Int)) then
 (bif u6c1_1 != 1 then
 (bif decide (0 ≤ r_4) then
 (bif decide (r_4 < (↑b2c1a_2.length : Int)) then
 (bif decide (0 ≤ n8_1) then
 (bif decide (n8_1 < (↑(List.length w.2.2.1) : Int)) then
 (ob (F.f_1v N (b2c1a_2.getD (Int.toNat r_4) dSpot).2.2.2.2 (List.getD w.2.2.1 (Int.toNat n8_1) [])) [] fun r_5 =>
 bif decide (0 ≤ r_4) then
 (bif decide (r_4 < (↑b2c1a_2.length : Int)) then
 (let b2c1as_7 : List Spot := b2c1a_2.set (Int.toNat r_4) ((b2c1a_2.getD (Int.toNat r_4) dSpot).1, (b2c1a_2.getD (Int.toNat r_4) dSpot).2.1, (b2c1a_2.getD (Int.toNat r_4) dSpot).2.2.1, (b2c1a_2.getD (Int.toNat r_4) dSpot).2.2.2.1, r_5)
 next (IntKind.i64.wrap (n8_1 + 1)) b2c1as_7) else none) else none) else none) else none) else none) else none)
 else
 (nx0 (IntKind.i64.wrap (i5 + 1)) b2c1a_2))
 else
 (nx0 (IntKind.i64.wrap (i5 + 1)) b2c1a_2)
def f_30_2 (N : Nat) (nx0 : Int → (List Spot) → Option Book) (b0 : List Foe) (b2 : List Txt) (b3 : List Part) (b4 : Int) (w : Want) (t4c4 : Int) (i5 : Int) (r_4 : Int) (u6c0_1 : Txt) (u6c1_1 : Int) (u6c2_1 : Int) : Nat → Int → (List Spot) → Option Book := lp (fun _ _ => none) fun next => f_30_2r N nx0 b0 b2 b3 b4 w t4c4 i5 r_4 u6c0_1 u6c1_1 u6c2_1 next
def f_30_0r (N : Nat) (I0 : Int → Int → Txt → Int → Int → Nat → Int → (List Spot) → Option Book) (b0 : List Foe) (b2 : List Txt) (b3 : List Part) (b4 : Int) (w : Want) (t4c4 : Int) (next : Int → (List Spot) → Option Book) : Int → (List Spot) → Option Book := fun i5 b2c1a =>
 bif decide (i5 < (↑(List.length w.2.2.2.1) : Int)) then
 (bif decide (0 ≤ i5) then
 (bif decide (i5 < (↑(List.length w.2.2.2.1) : Int)) then
 (ob (F.f_2i N (b0, b2c1a, b2, b3, b4) (List.getD w.2.2.2.1 (Int.toNat i5) dUse).1) (Int.ofNat 0) fun r_4 =>
 bif (List.getD w.2.2.2.1 (Int.toNat i5) dUse).2.1 == 1 then
 (bif decide (0 ≤ r_4) then
 (bif decide (r_4 < (↑b2c1a.length : Int)) then
 (bif decide (0 ≤ r_4) then
 (bif decide (r_4 < (↑b2c1a.length : Int)) then
 (let b2c1as_5 : List Spot := b2c1a.set (Int.toNat r_4) ((b2c1a.getD (Int.toNat r_4) dSpot).1, (b2c1a.getD (Int.toNat r_4) dSpot).2.1, IntKind.i64.wrap ((b2c1a.getD (Int.toNat r_4) dSpot).2.2.1 - (List.getD w.2.2.2.1 (Int.toNat i5) dUse).2.2), (b2c1a.getD (Int.toNat r_4) dSpot).2.2.2)
 bif (List.getD w.2.2.2.1 (Int.toNat i5) dUse).2.1 == 2 then
 (bif decide (0 ≤ r_4) then
 (bif decide (r_4 < (↑b2c1as_5.length : Int)) then
 (bif decide (0 ≤ r_4) then
 (bif decide (r_4 < (↑b2c1as_5.length : Int)) then
 (let b2c1as_6 : List Spot := b2c1as_5.set (Int.toNat r_4) ((b2c1as_5.getD (Int.toNat r_4) dSpot).1, (b2c1as_5.getD (Int.toNat r_4) dSpot).2.1, (b2c1as_5.getD (Int.toNat r_4) dSpot).2.2.1, IntKind.i64.wrap ((b2c1as_5.getD (Int.toNat r_4) dSpot).2.2.2.1 + (List.getD w.2.2.2.1 (Int.toNat i5) dUse).2.2), (b2c1as_5.getD (Int.toNat r_4) dSpot).2.2.2.2)
 I0 i5 r_4 ((List.getD w.2.2.2.1 (Int.toNat i5) dUse).1) ((List.getD w.2.2.2.1 (Int.toNat i5) dUse).2.1) ((List.getD w.2.2.2.1 (Int.toNat i5) dUse).2.2) N 0 b2c1as_6) else none) else none) else none) else none)
 else
 (I0 i5 r_4 ((List.getD w.2.2.2.1 (Int.toNat i5) dUse).1) ((List.getD w.2.2.2.1 (Int.toNat i5) dUse).2.1) ((List.getD w.2.2.2.1 (Int.toNat i5) dUse).2.2) N 0 b2c1as_5)) else none) else none) else none) else none)
 else
 (bif (List.getD w.2.2.2.1 (Int.toNat i5) dUse).2.1 == 2 then
 (bif decide (0 ≤ r_4) then
 (bif decide (r_4 < (↑b2c1a.length : Int)) then
 (bif decide (0 ≤ r_4) then
 (bif decide (r_4 < (↑b2c1a.length : Int)) then
 (let b2c1as_8 : List Spot := b2c1a.set (Int.toNat r_4) ((b2c1a.getD (Int.toNat r_4) dSpot).1, (b2c1a.getD (Int.toNat r_4) dSpot).2.1, (b2c1a.getD (Int.toNat r_4) dSpot).2.2.1, IntKind.i64.wrap ((b2c1a.getD (Int.toNat r_4) dSpot).2.2.2.1 + (List.getD w.2.2.2.1 (Int.toNat i5) dUse).2.2), (b2c1a.getD (Int.toNat r_4) dSpot).2.2.2.2)
 I0 i5 r_4 ((List.getD w.2.2.2.1 (Int.toNat i5) dUse).1) ((List.getD w.2.2.2.1 (Int.toNat i5) dUse).2.1) ((List.getD w.2.2.2.1 (Int.toNat i5) dUse).2.2) N 0 b2c1as_8) else none) else none) else none) else none)
 else
 (I0 i5 r_4 ((List.getD w.2.2.2.1 (Int.toNat i5) dUse).1) ((List.getD w.2.2.2.1 (Int.toNat i5) dUse).2.1) ((List.getD w.2.2.2.1 (Int.toNat i5) dUse).2.2) N 0 b2c1a))) else none) else none)
 else
 (ob (F.f_2e N w) dWant fun r_6 =>
 bif decide ((b3.length + [(r_6, false)].length) * 120 ≤ lim) then
 (some (b0, b2c1a, b2, b3 ++ [(r_6, false)], b4)) else none)
def f_30_0 (N : Nat) (b0 : List Foe) (b2 : List Txt) (b3 : List Part) (b4 : Int) (w : Want) (t4c4 : Int) : Nat → Int → (List Spot) → Option Book := lp (fun _ _ => none) fun next => f_30_0r N (f_30_2 N next b0 b2 b3 b4 w t4c4) b0 b2 b3 b4 w t4c4 next
def f_30b (N : Nat) (I1 : (List Foe) → (List Txt) → (List Part) → Int → Want → Int → Nat → Int → (List Spot) → Option Book) (b0 : List Foe) (b1 : List Spot) (b2 : List Txt) (b3 : List Part) (b4 : Int) (w : Want) : Option Book :=
 I1 b0 b2 b3 b4 w 0 N 0 b1
def f_30 (N : Nat) (b0 : List Foe) (b1 : List Spot) (b2 : List Txt) (b3 : List Part) (b4 : Int) (w : Want) : Option Book := f_30b N (f_30_0 N) b0 b1 b2 b3 b4 w
def f_14 (N : Nat) (b : Book) (w : Want) : Option (Book × Int) :=
 ob (F.f_1b N b w) (Int.ofNat 0) fun r =>
 bif r == 1 then
 (some (([], [], [], [], 0), 1))
 else
 (ob (F.f_2f N b) ([], [], [], [], Int.ofNat 0) fun r_1 =>
 ob (F.f_37 N r 2 4) false fun r_2 =>
 bif r_2 then
 (some (r_1, r))
 else
 (ob (F.f_2h N b w.1) (Int.ofNat 0) fun r_3 =>
 bif decide (r_3 ≥ 0) then
 (some (r_1, r))
 else
 (bif r == 0 then
 (ob (F.f_30 N r_1.1 r_1.2.1 r_1.2.2.1 r_1.2.2.2.1 w.1 w) ([], [], [], [], Int.ofNat 0) fun r_4 =>
 ob (F.f_2f N r_4) ([], [], [], [], Int.ofNat 0) fun r_5 =>
 some (r_5, r))
 else
 (ob (F.f_2f N (r_1.1, r_1.2.1, r_1.2.2.1, r_1.2.2.2.1, w.1)) ([], [], [], [], Int.ofNat 0) fun r_6 =>
 some (r_6, r)))))
def f_2p (N : Nat) (b : Book) (d : Do) : Option Book :=
 bif decide (d.2.1 > 0) then
 (ob (F.f_1e N b d.2.1) (([], [], [], [], Int.ofNat 0), Int.ofNat 0) fun r =>
 some r.1)
 else
 (bif decide (d.2.2.1 > 0) then
 (ob (F.f_1c N b d.2.2.1 d.2.2.2.1 d.2.2.2.2) (([], [], [], [], Int.ofNat 0), Int.ofNat 0) fun r_1 =>
 some r_1.1)
 else
 (ob (F.f_14 N b d.1) (([], [], [], [], Int.ofNat 0), Int.ofNat 0) fun r_2 =>
 some r_2.1))
def f_2l_0r (N : Nat) (t2c4 : Int) (next : Int → (List Int) → Int → (List Foe) → (List Spot) → (List Txt) → (List Part) → Int → Option (Book × Rdr)) : Int → (List Int) → Int → (List Foe) → (List Spot) → (List Txt) → (List Part) → Int → Option (Book × Rdr) := fun n4 rpc0 rpc1 b3c0 b3c1 b3c2 b3c3 b3c4 =>
 bif decide (n4 > 0) then
 (ob (F.f_2m N (rpc0, rpc1) (b3c0, b3c1, b3c2, b3c3, b3c4)) ((dWant, Int.ofNat 0, Int.ofNat 0, Int.ofNat 0, false), [], Int.ofNat 0) fun r_5 =>
 ob (F.f_2p N (b3c0, b3c1, b3c2, b3c3, b3c4) r_5.1) ([], [], [], [], Int.ofNat 0) fun r_6 =>
 next (IntKind.i64.wrap (n4 - 1)) r_5.2.1 r_5.2.2 r_6.1 r_6.2.1 r_6.2.2.1 r_6.2.2.2.1 r_6.2.2.2.2)
 else
 (some ((b3c0, b3c1, b3c2, b3c3, b3c4), rpc0, rpc1))
def f_2l_0 (N : Nat) (t2c4 : Int) : Nat → Int → (List Int) → Int → (List Foe) → (List Spot) → (List Txt) → (List Part) → Int → Option (Book × Rdr) := lp (fun _ _ _ _ _ _ _ _ => none) fun next => f_2l_0r N t2c4 next
def f_2lb (N : Nat) (I0 : Int → Nat → Int → (List Int) → Int → (List Foe) → (List Spot) → (List Txt) → (List Part) → Int → Option (Book × Rdr)) (r : Rdr) : Option (Book × Rdr) :=
 ob (F.f_2k N r) (([], [], [], [], Int.ofNat 0), [], Int.ofNat 0) fun r_1 =>
 ob (F.f_1g N r_1.2 24) (Int.ofNat 0, [], Int.ofNat 0) fun r_2 =>
 I0 0 N r_2.1 r_2.2.1 r_2.2.2 r_1.1.1 r_1.1.2.1 r_1.1.2.2.1 r_1.1.2.2.2.1 r_1.1.2.2.2.2
def f_2l (N : Nat) (r : Rdr) : Option (Book × Rdr) := f_2lb N (f_2l_0 N) r
def f_28 (N : Nat) (r : Rdr) (b : Book) : Option (Book × Rdr) :=
 ob (F.f_2f N b) ([], [], [], [], Int.ofNat 0) fun r_1 =>
 ob (F.f_1g N r 6) (Int.ofNat 0, [], Int.ofNat 0) fun r_2 =>
 bif r_2.1 == 0 then
 (ob (F.f_20 N r_2.2 [[97, 108, 101], [119, 97, 116, 101, 114], []]) ([], [], Int.ofNat 0) fun r_3 =>
 ob (F.f_20 N r_3.2 [[97, 108, 101], [122, 122]]) ([], [], Int.ofNat 0) fun r_4 =>
 bif decide ((List.length r_1.1 + 1) * 32 ≤ lim) then
 (some ((r_1.1 ++ [(r_3.1, r_4.1)], r_1.2), r_4.2)) else none)
 else
 (bif r_2.1 == 1 then
 (ob (F.f_1g N r_2.2 4) (Int.ofNat 0, [], Int.ofNat 0) fun r_5 =>
 bif decide (0 ≤ r_5.1) then
 (bif decide (r_5.1 < (↑[-1, 0, 1000000, 1000001].length : Int)) then
 (some ((r_1.1, r_1.2.1, r_1.2.2.1, r_1.2.2.2.1, [-1, 0, 1000000, 1000001].getD (Int.toNat r_5.1) (Int.ofNat 0)), r_5.2)) else none) else none)
 else
 (bif r_2.1 == 2 then
 (ob (F.f_20 N r_2.2 [[], [97], [122, 122]]) ([], [], Int.ofNat 0) fun r_6 =>
 bif decide ((List.length r_1.2.2.1 + 1) * 16 ≤ lim) then
 (some ((r_1.1, r_1.2.1, r_1.2.2.1 ++ [r_6.1], r_1.2.2.2), r_6.2)) else none)
 else
 (bif r_2.1 == 3 then
 (bif decide ((↑(List.length r_1.2.1) : Int) > 0) then
 (ob (F.f_1g N r_2.2 (↑(List.length r_1.2.1) : Int)) (Int.ofNat 0, [], Int.ofNat 0) fun r_7 =>
 ob (F.f_1g N r_7.2 5) (Int.ofNat 0, [], Int.ofNat 0) fun r_8 =>
 bif r_8.1 == 0 then
 (ob (F.f_20 N r_8.2 [[], [75], [122, 122], [97]]) ([], [], Int.ofNat 0) fun r_9 =>
 bif decide (0 ≤ r_7.1) then
 (bif decide (r_7.1 < (↑(List.length r_1.2.1) : Int)) then
 (let t1577as : List Spot := List.set r_1.2.1 (Int.toNat r_7.1) (r_9.1, (List.getD r_1.2.1 (Int.toNat r_7.1) dSpot).2)
 some ((r_1.1, t1577as, r_1.2.2), r_9.2)) else none) else none)
 else
 (bif r_8.1 == 1 then
 (ob (F.f_1g N r_8.2 4) (Int.ofNat 0, [], Int.ofNat 0) fun r_10 =>
 bif decide (0 ≤ r_10.1) then
 (bif decide (r_10.1 < (↑[-1, 0, 1000, 1001].length : Int)) then
 (bif decide (0 ≤ r_7.1) then
 (bif decide (r_7.1 < (↑(List.length r_1.2.1) : Int)) then
 (let t1577as_1 : List Spot := List.set r_1.2.1 (Int.toNat r_7.1) ((List.getD r_1.2.1 (Int.toNat r_7.1) dSpot).1, [-1, 0, 1000, 1001].getD (Int.toNat r_10.1) (Int.ofNat 0), (List.getD r_1.2.1 (Int.toNat r_7.1) dSpot).2.2)
 some ((r_1.1, t1577as_1, r_1.2.2), r_10.2)) else none) else none) else none) else none)
 else
 (bif r_8.1 == 2 then
 (bif decide (0 ≤ r_7.1) then
 (bif decide (r_7.1 < (↑(List.length r_1.2.1) : Int)) then
 (ob (F.f_1g N r_8.2 5) (Int.ofNat 0, [], Int.ofNat 0) fun r_11 =>
 bif decide (0 ≤ r_7.1) then
 (bif decide (r_7.1 < (↑(List.length r_1.2.1) : Int)) then
 (let t1577as_2 : List Spot := List.set r_1.2.1 (Int.toNat r_7.1) ((List.getD r_1.2.1 (Int.toNat r_7.1) dSpot).1, (List.getD r_1.2.1 (Int.toNat r_7.1) dSpot).2.1, IntKind.i64.wrap (IntKind.i64.wrap ((List.getD r_1.2.1 (Int.toNat r_7.1) dSpot).2.2.1 + r_11.1) - 2), (List.getD r_1.2.1 (Int.toNat r_7.1) dSpot).2.2.2)
 some ((r_1.1, t1577as_2, r_1.2.2), r_11.2)) else none) else none) else none) else none)
 else
 (bif r_8.1 == 3 then
 (bif decide (0 ≤ r_7.1) then
 (bif decide (r_7.1 < (↑(List.length r_1.2.1) : Int)) then
 (ob (F.f_1g N r_8.2 5) (Int.ofNat 0, [], Int.ofNat 0) fun r_12 =>
 bif decide (0 ≤ r_7.1) then
 (bif decide (r_7.1 < (↑(List.length r_1.2.1) : Int)) then
 (let t1577as_3 : List Spot := List.set r_1.2.1 (Int.toNat r_7.1) ((List.getD r_1.2.1 (Int.toNat r_7.1) dSpot).1, (List.getD r_1.2.1 (Int.toNat r_7.1) dSpot).2.1, (List.getD r_1.2.1 (Int.toNat r_7.1) dSpot).2.2.1, IntKind.i64.wrap (IntKind.i64.wrap ((List.getD r_1.2.1 (Int.toNat r_7.1) dSpot).2.2.2.1 + r_12.1) - 2), (List.getD r_1.2.1 (Int.toNat r_7.1) dSpot).2.2.2.2)
 some ((r_1.1, t1577as_3, r_1.2.2), r_12.2)) else none) else none) else none) else none)
 else
 (bif decide (0 ≤ r_7.1) then
 (bif decide (r_7.1 < (↑(List.length r_1.2.1) : Int)) then
 (let t1577as_4 : List Spot := List.set r_1.2.1 (Int.toNat r_7.1) ((List.getD r_1.2.1 (Int.toNat r_7.1) dSpot).1, (List.getD r_1.2.1 (Int.toNat r_7.1) dSpot).2.1, (List.getD r_1.2.1 (Int.toNat r_7.1) dSpot).2.2.1, (List.getD r_1.2.1 (Int.toNat r_7.1) dSpot).2.2.2.1, [])
 ob (F.f_20 N r_8.2 [[97, 108, 101], [108, 121, 101], [122, 122], []]) ([], [], Int.ofNat 0) fun r_13 =>
 bif decide ((List.length (List.getD r_1.2.1 (Int.toNat r_7.1) dSpot).2.2.2.2 + 1) * 16 ≤ lim) then
 (bif decide (0 ≤ r_7.1) then
 (bif decide (r_7.1 < (↑t1577as_4.length : Int)) then
 (bif decide (r_7.1 = r_7.1) && decide (([(5, 4)], 101).1 = [(5, 4)]) then
 (let t1577as_5 : List Spot := t1577as_4.set (Int.toNat r_7.1) ((t1577as_4.getD (Int.toNat r_7.1) dSpot).1, (t1577as_4.getD (Int.toNat r_7.1) dSpot).2.1, (t1577as_4.getD (Int.toNat r_7.1) dSpot).2.2.1, (t1577as_4.getD (Int.toNat r_7.1) dSpot).2.2.2.1, (List.getD r_1.2.1 (Int.toNat r_7.1) dSpot).2.2.2.2 ++ [r_13.1])
 some ((r_1.1, t1577as_5, r_1.2.2), r_13.2)) else none) else none) else none) else none) else none) else none)))))
 else
 (some (r_1, r_2.2)))
 else
 (bif r_2.1 == 4 then
 (bif decide ((↑(List.length r_1.2.1) : Int) > 0) then
 (ob (F.f_1g N r_2.2 (↑(List.length r_1.2.1) : Int)) (Int.ofNat 0, [], Int.ofNat 0) fun r_14 =>
 ob (F.f_1g N r_14.2 5) (Int.ofNat 0, [], Int.ofNat 0) fun r_15 =>
 bif r_15.1 == 0 then
 (ob (F.f_20 N r_15.2 [[], [75], [122, 122], [97]]) ([], [], Int.ofNat 0) fun r_16 =>
 bif decide (0 ≤ r_14.1) then
 (bif decide (r_14.1 < (↑(List.length r_1.2.1) : Int)) then
 (let t1577as_6 : List Spot := List.set r_1.2.1 (Int.toNat r_14.1) (r_16.1, (List.getD r_1.2.1 (Int.toNat r_14.1) dSpot).2)
 some ((r_1.1, t1577as_6, r_1.2.2), r_16.2)) else none) else none)
 else
 (bif r_15.1 == 1 then
 (ob (F.f_1g N r_15.2 4) (Int.ofNat 0, [], Int.ofNat 0) fun r_17 =>
 bif decide (0 ≤ r_17.1) then
 (bif decide (r_17.1 < (↑[-1, 0, 1000, 1001].length : Int)) then
 (bif decide (0 ≤ r_14.1) then
 (bif decide (r_14.1 < (↑(List.length r_1.2.1) : Int)) then
 (let t1577as_7 : List Spot := List.set r_1.2.1 (Int.toNat r_14.1) ((List.getD r_1.2.1 (Int.toNat r_14.1) dSpot).1, [-1, 0, 1000, 1001].getD (Int.toNat r_17.1) (Int.ofNat 0), (List.getD r_1.2.1 (Int.toNat r_14.1) dSpot).2.2)
 some ((r_1.1, t1577as_7, r_1.2.2), r_17.2)) else none) else none) else none) else none)
 else
 (bif r_15.1 == 2 then
 (bif decide (0 ≤ r_14.1) then
 (bif decide (r_14.1 < (↑(List.length r_1.2.1) : Int)) then
 (ob (F.f_1g N r_15.2 5) (Int.ofNat 0, [], Int.ofNat 0) fun r_18 =>
 bif decide (0 ≤ r_14.1) then
 (bif decide (r_14.1 < (↑(List.length r_1.2.1) : Int)) then
 (let t1577as_8 : List Spot := List.set r_1.2.1 (Int.toNat r_14.1) ((List.getD r_1.2.1 (Int.toNat r_14.1) dSpot).1, (List.getD r_1.2.1 (Int.toNat r_14.1) dSpot).2.1, IntKind.i64.wrap (IntKind.i64.wrap ((List.getD r_1.2.1 (Int.toNat r_14.1) dSpot).2.2.1 + r_18.1) - 2), (List.getD r_1.2.1 (Int.toNat r_14.1) dSpot).2.2.2)
 some ((r_1.1, t1577as_8, r_1.2.2), r_18.2)) else none) else none) else none) else none)
 else
 (bif r_15.1 == 3 then
 (bif decide (0 ≤ r_14.1) then
 (bif decide (r_14.1 < (↑(List.length r_1.2.1) : Int)) then
 (ob (F.f_1g N r_15.2 5) (Int.ofNat 0, [], Int.ofNat 0) fun r_19 =>
 bif decide (0 ≤ r_14.1) then
 (bif decide (r_14.1 < (↑(List.length r_1.2.1) : Int)) then
 (let t1577as_9 : List Spot := List.set r_1.2.1 (Int.toNat r_14.1) ((List.getD r_1.2.1 (Int.toNat r_14.1) dSpot).1, (List.getD r_1.2.1 (Int.toNat r_14.1) dSpot).2.1, (List.getD r_1.2.1 (Int.toNat r_14.1) dSpot).2.2.1, IntKind.i64.wrap (IntKind.i64.wrap ((List.getD r_1.2.1 (Int.toNat r_14.1) dSpot).2.2.2.1 + r_19.1) - 2), (List.getD r_1.2.1 (Int.toNat r_14.1) dSpot).2.2.2.2)
 some ((r_1.1, t1577as_9, r_1.2.2), r_19.2)) else none) else none) else none) else none)
 else
 (bif decide (0 ≤ r_14.1) then
 (bif decide (r_14.1 < (↑(List.length r_1.2.1) : Int)) then
 (let t1577as_10 : List Spot := List.set r_1.2.1 (Int.toNat r_14.1) ((List.getD r_1.2.1 (Int.toNat r_14.1) dSpot).1, (List.getD r_1.2.1 (Int.toNat r_14.1) dSpot).2.1, (List.getD r_1.2.1 (Int.toNat r_14.1) dSpot).2.2.1, (List.getD r_1.2.1 (Int.toNat r_14.1) dSpot).2.2.2.1, [])
 ob (F.f_20 N r_15.2 [[97, 108, 101], [108, 121, 101], [122, 122], []]) ([], [], Int.ofNat 0) fun r_20 =>
 bif decide ((List.length (List.getD r_1.2.1 (Int.toNat r_14.1) dSpot).2.2.2.2 + 1) * 16 ≤ lim) then
 (bif decide (0 ≤ r_14.1) then
 (bif decide (r_14.1 < (↑t1577as_10.length : Int)) then
 (bif decide (r_14.1 = r_14.1) && decide (([(5, 4)], 101).1 = [(5, 4)]) then
 (let t1577as_11 : List Spot := t1577as_10.set (Int.toNat r_14.1) ((t1577as_10.getD (Int.toNat r_14.1) dSpot).1, (t1577as_10.getD (Int.toNat r_14.1) dSpot).2.1, (t1577as_10.getD (Int.toNat r_14.1) dSpot).2.2.1, (t1577as_10.getD (Int.toNat r_14.1) dSpot).2.2.2.1, (List.getD r_1.2.1 (Int.toNat r_14.1) dSpot).2.2.2.2 ++ [r_20.1])
 some ((r_1.1, t1577as_11, r_1.2.2), r_20.2)) else none) else none) else none) else none) else none) else none)))))
 else
 (some (r_1, r_2.2)))
 else
 (bif decide ((↑(List.length r_1.2.2.2.1) : Int) > 0) then
 (ob (F.f_1g N r_2.2 (↑(List.length r_1.2.2.2.1) : Int)) (Int.ofNat 0, [], Int.ofNat 0) fun r_21 =>
 ob (F.f_1g N r_21.2 2) (Int.ofNat 0, [], Int.ofNat 0) fun r_22 =>
 bif r_22.1 == 0 then
 (bif decide (0 ≤ r_21.1) then
 (bif decide (r_21.1 < (↑(List.length r_1.2.2.2.1) : Int)) then
 (bif decide ((List.length r_1.2.2.2.1 + 1) * 120 ≤ lim) then
 (some ((r_1.1, r_1.2.1, r_1.2.2.1, r_1.2.2.2.1 ++ [List.getD r_1.2.2.2.1 (Int.toNat r_21.1) dPart], r_1.2.2.2.2), r_22.2)) else none) else none) else none)
 else
 (bif decide (0 ≤ r_21.1) then
 (bif decide (r_21.1 < (↑(List.length r_1.2.2.2.1) : Int)) then
 (ob (F.f_12 N r_22.2 (List.getD r_1.2.2.2.1 (Int.toNat r_21.1) dPart).1) (dWant, [], Int.ofNat 0) fun r_23 =>
 bif decide (0 ≤ r_21.1) then
 (bif decide (r_21.1 < (↑(List.length r_1.2.2.2.1) : Int)) then
 (let t1579as : List Part := List.set r_1.2.2.2.1 (Int.toNat r_21.1) (r_23.1, (List.getD r_1.2.2.2.1 (Int.toNat r_21.1) dPart).2)
 some ((r_1.1, r_1.2.1, r_1.2.2.1, t1579as, r_1.2.2.2.2), r_23.2)) else none) else none) else none) else none))
 else
 (some (r_1, r_2.2)))))))
def f_31 (N : Nat) (r : Rdr) : Option (Book × Rdr) :=
 ob (F.f_2l N r) (([], [], [], [], Int.ofNat 0), [], Int.ofNat 0) fun r_1 =>
 ob (F.f_1g N r_1.2 20) (Int.ofNat 0, [], Int.ofNat 0) fun r_2 =>
 bif r_2.1 == 0 then
 (ob (F.f_28 N r_2.2 r_1.1) (([], [], [], [], Int.ofNat 0), [], Int.ofNat 0) fun r_3 =>
 some r_3)
 else
 (some (r_1.1, r_2.2))
def f_29G (g_f_1g : ((List (Int)) × (Int)) → (Int) → Option ((Int) × ((List (Int)) × (Int)))) (g_f_20 : ((List (Int)) × (Int)) → (List Txt) → Option ((List UInt8) × ((List (Int)) × (Int)))) (r : Rdr) (b : Book) : Option (Txt × Rdr) :=
 bif decide ((↑(List.length b.2.2.1) : Int) > 0) then
 (ob (g_f_1g r 10) (Int.ofNat 0, [], Int.ofNat 0) fun r_1 =>
 bif decide (r_1.1 > 0) then
 (ob (g_f_1g r_1.2 (↑(List.length b.2.2.1) : Int)) (Int.ofNat 0, [], Int.ofNat 0) fun r_2 =>
 bif decide (0 ≤ r_2.1) then
 (bif decide (r_2.1 < (↑(List.length b.2.2.1) : Int)) then
 (some (List.getD b.2.2.1 (Int.toNat r_2.1) [], r_2.2)) else none) else none)
 else
 (ob (g_f_20 r_1.2 [[], [122, 122], [97]]) ([], [], Int.ofNat 0) fun r_3 =>
 some r_3))
 else
 (ob (g_f_20 r [[], [122, 122], [97]]) ([], [], Int.ofNat 0) fun r_4 =>
 some r_4)
def f_29 (N : Nat) (r : Rdr) (b : Book) : Option (Txt × Rdr) := f_29G (F.f_1g N) (F.f_20 N) r b
def f_w (N : Nat) (code : List Int) : Option (Book × Txt) :=
 bif decide ((↑code.length : Int) > 2000) then
 (bif decide (2000 ≤ (↑(List.length code) : Int)) then
 (ob (F.f_31 N (List.drop (Int.toNat 0) (List.take (Int.toNat 2000) code), 0)) (([], [], [], [], Int.ofNat 0), [], Int.ofNat 0) fun r =>
 ob (F.f_29 N r.2 r.1) ([], [], Int.ofNat 0) fun r_1 =>
 some (r.1, r_1.1)) else none)
 else
 (ob (F.f_31 N (code, 0)) (([], [], [], [], Int.ofNat 0), [], Int.ofNat 0) fun r_2 =>
 ob (F.f_29 N r_2.2 r_2.1) ([], [], Int.ofNat 0) fun r_3 =>
 some (r_2.1, r_3.1))
def f_39 (N : Nat) (n : Int) (low : Int) (high : Int) : Option Bool :=
 bif decide (n ≥ low) then
 (some (decide (n ≤ high)))
 else
 (some false)
def f_34_0r (N : Nat) (s : Txt) (next : Int → Option Bool) : Int → Option Bool := fun i3 =>
 bif decide (i3 < (↑s.length : Int)) then
 (bif decide (0 ≤ i3) then
 (bif decide (i3 < (↑s.length : Int)) then
 (bif decide ((↑(s.getD (Int.toNat i3) 0).toNat : Int) ≥ 97) then
 (bif decide ((↑(s.getD (Int.toNat i3) 0).toNat : Int) ≤ 122) then
 (next (IntKind.i64.wrap (i3 + 1)))
 else
 (bif decide ((↑(s.getD (Int.toNat i3) 0).toNat : Int) ≥ 48) then
 (bif decide ((↑(s.getD (Int.toNat i3) 0).toNat : Int) ≤ 57) then
 (next (IntKind.i64.wrap (i3 + 1)))
 else
 (bif !(↑(s.getD (Int.toNat i3) 0).toNat : Int) == 45 then
 (some false)
 else
 (next (IntKind.i64.wrap (i3 + 1)))))
 else
 (bif !(↑(s.getD (Int.toNat i3) 0).toNat : Int) == 45 then
 (some false)
 else
 (next (IntKind.i64.wrap (i3 + 1))))))
 else
 (bif decide ((↑(s.getD (Int.toNat i3) 0).toNat : Int) ≥ 48) then
 (bif decide ((↑(s.getD (Int.toNat i3) 0).toNat : Int) ≤ 57) then
 (next (IntKind.i64.wrap (i3 + 1)))
 else
 (bif !(↑(s.getD (Int.toNat i3) 0).toNat : Int) == 45 then
 (some false)
 else
 (next (IntKind.i64.wrap (i3 + 1)))))
 else
 (bif !(↑(s.getD (Int.toNat i3) 0).toNat : Int) == 45 then
 (some false)
 else
 (next (IntKind.i64.wrap (i3 + 1)))))) else none) else none)
 else
 (some true)
def f_34_0 (N : Nat) (s : Txt) : Nat → Int → Option Bool := lp (fun _ => none) fun next => f_34_0r N s next
def f_34b (N : Nat) (I0 : Txt → Nat → Int → Option Bool) (s : Txt) : Option Bool :=
 ob (F.f_39 N (↑s.length : Int) 1 8) false fun r =>
 bif !r then
 (some false)
 else
 (I0 s N 0)
def f_34 (N : Nat) (s : Txt) : Option Bool := f_34b N (f_34_0 N) s
def f_2r_0r (N : Nat) (l : List Txt) (t12 : Int) (next : Int → Option Bool) : Int → Option Bool := fun t13 =>
 bif decide (t13 < t12) then
 (bif decide (0 ≤ t13) then
 (bif decide (t13 < (↑l.length : Int)) then
 (ob (F.f_34 N (l.getD (Int.toNat t13) [])) false fun r =>
 bif !r then
 (some false)
 else
 (bif decide (t13 > 0) then
 (bif decide (0 ≤ IntKind.i64.wrap (t13 - 1)) then
 (bif decide (IntKind.i64.wrap (t13 - 1) < (↑l.length : Int)) then
 (bif !Op.bytesLess (l.getD (IntKind.i64.wrap (t13 - 1)).toNat []) (l.getD (Int.toNat t13) []) then
 (some false)
 else
 (next (IntKind.i64.wrap (t13 + 1)))) else none) else none)
 else
 (next (IntKind.i64.wrap (t13 + 1))))) else none) else none)
 else
 (some true)
def f_2r_0 (N : Nat) (l : List Txt) (t12 : Int) : Nat → Int → Option Bool := lp (fun _ => none) fun next => f_2r_0r N l t12 next
def f_2rb (N : Nat) (I0 : (List Txt) → Int → Nat → Int → Option Bool) (l : List Txt) (most : Int) : Option Bool :=
 bif decide ((↑l.length : Int) > most) then
 (some false)
 else
 (I0 l (↑l.length : Int) N 0)
def f_2r (N : Nat) (l : List Txt) (most : Int) : Option Bool := f_2rb N (f_2r_0 N) l most
def f_o (N : Nat) (f : Foe) (g : Foe) : Option Bool :=
 bif Op.bytesLess f.1 g.1 then
 (some true)
 else
 (bif f.1 == g.1 then
 (some (Op.bytesLess f.2 g.2))
 else
 (some false))
def f_r_0r (N : Nat) (s : List Txt) (v : Txt) (t7 : Int) (next : Int → Option Int) : Int → Option Int := fun t8 =>
 bif decide (t8 < t7) then
 (bif decide (0 ≤ t8) then
 (bif decide (t8 < (↑s.length : Int)) then
 (bif v == s.getD (Int.toNat t8) [] then
 (some t8)
 else
 (next (IntKind.i64.wrap (t8 + 1)))) else none) else none)
 else
 (some (-1))
def f_r_0 (N : Nat) (s : List Txt) (v : Txt) (t7 : Int) : Nat → Int → Option Int := lp (fun _ => none) fun next => f_r_0r N s v t7 next
def f_rb (N : Nat) (I0 : (List Txt) → Txt → Int → Nat → Int → Option Int) (s : List Txt) (v : Txt) : Option Int :=
 I0 s v (↑s.length : Int) N 0
def f_r (N : Nat) (s : List Txt) (v : Txt) : Option Int := f_rb N (f_r_0 N) s v
def f_f (N : Nat) (s : List Txt) (v : Txt) : Option Bool :=
 ob (F.f_r N s v) (Int.ofNat 0) fun r =>
 some (decide (r ≥ 0))
def f_m_0r (N : Nat) (b : Book) (x : List Txt) (y : List Txt) (t11 : Int) (next : Int → Option Bool) : Int → Option Bool := fun t12 =>
 bif decide (t12 < t11) then
 (bif decide (0 ≤ t12) then
 (bif decide (t12 < (↑(List.length b.1) : Int)) then
 (ob (F.f_f N x (List.getD b.1 (Int.toNat t12) dFoe).1) false fun r =>
 bif r then
 (ob (F.f_f N y (List.getD b.1 (Int.toNat t12) dFoe).2) false fun r_1 =>
 bif r_1 then
 (some true)
 else
 (ob (F.f_f N x (List.getD b.1 (Int.toNat t12) dFoe).2) false fun r_2 =>
 bif r_2 then
 (ob (F.f_f N y (List.getD b.1 (Int.toNat t12) dFoe).1) false fun r_3 =>
 bif r_3 then
 (some true)
 else
 (next (IntKind.i64.wrap (t12 + 1))))
 else
 (next (IntKind.i64.wrap (t12 + 1)))))
 else
 (ob (F.f_f N x (List.getD b.1 (Int.toNat t12) dFoe).2) false fun r_4 =>
 bif r_4 then
 (ob (F.f_f N y (List.getD b.1 (Int.toNat t12) dFoe).1) false fun r_5 =>
 bif r_5 then
 (some true)
 else
 (next (IntKind.i64.wrap (t12 + 1))))
 else
 (next (IntKind.i64.wrap (t12 + 1))))) else none) else none)
 else
 (some false)
def f_m_0 (N : Nat) (b : Book) (x : List Txt) (y : List Txt) (t11 : Int) : Nat → Int → Option Bool := lp (fun _ => none) fun next => f_m_0r N b x y t11 next
def f_mb (N : Nat) (I0 : Book → (List Txt) → (List Txt) → Int → Nat → Int → Option Bool) (b : Book) (x : List Txt) (y : List Txt) : Option Bool :=
 I0 b x y (↑(List.length b.1) : Int) N 0
def f_m (N : Nat) (b : Book) (x : List Txt) (y : List Txt) : Option Bool := f_mb N (f_m_0 N) b x y
def f_19 (N : Nat) (s : Txt) (p1 : List Txt) : Option (Bool × List Txt) :=
 ob (F.f_f N p1 s) false fun r =>
 some (r, p1)
def f_c_0r (N : Nat) (s : List Txt) (t7 : Int) (next : Int → (List Txt) → Option (Int × List Txt)) : Int → (List Txt) → Option (Int × List Txt) := fun t8 fpc0 =>
 bif decide (t8 < t7) then
 (bif decide (0 ≤ t8) then
 (bif decide (t8 < (↑s.length : Int)) then
 (ob (F.f_19 N (s.getD (Int.toNat t8) []) fpc0) (false, []) fun r_1 =>
 bif r_1.1 then
 (some (t8, r_1.2))
 else
 (next (IntKind.i64.wrap (t8 + 1)) r_1.2)) else none) else none)
 else
 (some (-1, fpc0))
def f_c_0 (N : Nat) (s : List Txt) (t7 : Int) : Nat → Int → (List Txt) → Option (Int × List Txt) := lp (fun _ _ => none) fun next => f_c_0r N s t7 next
def f_cb (N : Nat) (I0 : (List Txt) → Int → Nat → Int → (List Txt) → Option (Int × List Txt)) (s : List Txt) (p1 : List Txt) : Option (Int × List Txt) :=
 I0 s (↑s.length : Int) N 0 p1
def f_c (N : Nat) (s : List Txt) (p1 : List Txt) : Option (Int × List Txt) := f_cb N (f_c_0 N) s p1
def f_9 (N : Nat) (s : List Txt) (p1 : List Txt) : Option (Bool × List Txt) :=
 ob (F.f_c N s p1) (Int.ofNat 0, []) fun r =>
 some (decide (r.1 ≥ 0), r.2)
def f_2a (N : Nat) (a : List Txt) (b : List Txt) : Option Bool :=
 ob (F.f_9 N a b) (false, []) fun r =>
 some r.1
def f_y_0r (N : Nat) (w : Want) (move3 : Bool) (t41 : Int) (next : Int → Option Bool) : Int → Option Bool := fun t42 =>
 bif decide (t42 < t41) then
 (bif decide (0 ≤ t42) then
 (bif decide (t42 < (↑(List.length w.2.2.2.1) : Int)) then
 (ob (F.f_34 N (List.getD w.2.2.2.1 (Int.toNat t42) dUse).1) false fun r_3 =>
 bif !r_3 then
 (some false)
 else
 (bif decide (t42 > 0) then
 (bif decide (0 ≤ IntKind.i64.wrap (t42 - 1)) then
 (bif decide (IntKind.i64.wrap (t42 - 1) < (↑(List.length w.2.2.2.1) : Int)) then
 (bif !Op.bytesLess (List.getD w.2.2.2.1 (IntKind.i64.wrap (t42 - 1)).toNat dUse).1 (List.getD w.2.2.2.1 (Int.toNat t42) dUse).1 then
 (some false)
 else
 (ob (F.f_39 N (List.getD w.2.2.2.1 (Int.toNat t42) dUse).2.1 1 3) false fun r_4 =>
 bif !r_4 then
 (some false)
 else
 (bif (List.getD w.2.2.2.1 (Int.toNat t42) dUse).2.1 == 3 then
 (bif (List.getD w.2.2.2.1 (Int.toNat t42) dUse).2.2 != 0 then
 (some false)
 else
 (next (IntKind.i64.wrap (t42 + 1))))
 else
 (bif !move3 then
 (some false)
 else
 (ob (F.f_39 N (List.getD w.2.2.2.1 (Int.toNat t42) dUse).2.2 1 1000) false fun r_5 =>
 bif !r_5 then
 (some false)
 else
 (next (IntKind.i64.wrap (t42 + 1)))))))) else none) else none)
 else
 (ob (F.f_39 N (List.getD w.2.2.2.1 (Int.toNat t42) dUse).2.1 1 3) false fun r_6 =>
 bif !r_6 then
 (some false)
 else
 (bif (List.getD w.2.2.2.1 (Int.toNat t42) dUse).2.1 == 3 then
 (bif (List.getD w.2.2.2.1 (Int.toNat t42) dUse).2.2 != 0 then
 (some false)
 else
 (next (IntKind.i64.wrap (t42 + 1))))
 else
 (bif !move3 then
 (some false)
 else
 (ob (F.f_39 N (List.getD w.2.2.2.1 (Int.toNat t42) dUse).2.2 1 1000) false fun r_7 =>
 bif !r_7 then
 (some false)
 else
 (next (IntKind.i64.wrap (t42 + 1))))))))) else none) else none)
 else
 (ob (F.f_2r N w.2.2.2.2.1 12) false fun r_8 =>
 bif !r_8 then
 (some false)
 else
 (ob (F.f_2r N w.2.2.2.2.2 12) false fun r_9 =>
 bif !r_9 then
 (some false)
 else
 (ob (F.f_2a N w.2.2.2.2.1 w.2.2.2.2.2) false fun r_10 =>
 bif r_10 then
 (some false)
 else
 (bif !move3 then
 (bif decide ((↑(List.length w.2.2.2.2.1) : Int) > 0) then
 (some false)
 else
 (some (decide (IntKind.i64.wrap (IntKind.i64.wrap ((↑(List.length w.2.2.2.1) : Int) + (↑(List.length w.2.2.2.2.1) : Int)) + (↑(List.length w.2.2.2.2.2) : Int)) > 0))))
 else
 (some (decide (IntKind.i64.wrap (IntKind.i64.wrap ((↑(List.length w.2.2.2.1) : Int) + (↑(List.length w.2.2.2.2.1) : Int)) + (↑(List.length w.2.2.2.2.2) : Int)) > 0)))))))
def f_y_0 (N : Nat) (w : Want) (move3 : Bool) (t41 : Int) : Nat → Int → Option Bool := lp (fun _ => none) fun next => f_y_0r N w move3 t41 next
def f_yb (N : Nat) (I0 : Want → Bool → Int → Nat → Int → Option Bool) (w : Want) : Option Bool :=
 ob (F.f_39 N w.1 1 1000000) false fun r =>
 bif !r then
 (some false)
 else
 (ob (F.f_39 N w.2.1 1 3) false fun r_1 =>
 bif !r_1 then
 (some false)
 else
 (ob (F.f_2r N w.2.2.1 8) false fun r_2 =>
 bif !r_2 then
 (some false)
 else
 (bif !(w.2.1 == 1) == decide ((↑(List.length w.2.2.1) : Int) > 0) then
 (some false)
 else
 (bif decide ((↑(List.length w.2.2.2.1) : Int) > 8) then
 (some false)
 else
 (I0 w (w.2.1 == 1) (↑(List.length w.2.2.2.1) : Int) N 0)))))
def f_y (N : Nat) (w : Want) : Option Bool := f_yb N (f_y_0 N) w
def f_k (N : Nat) (s : Spot) (p1 : Txt) : Option (Bool × Txt) :=
 some (s.1 == p1, p1)
def f_3_0r (N : Nat) (s : List Spot) (t7 : Int) (next : Int → Txt → Option (Int × Txt)) : Int → Txt → Option (Int × Txt) := fun t8 fpc0 =>
 bif decide (t8 < t7) then
 (bif decide (0 ≤ t8) then
 (bif decide (t8 < (↑s.length : Int)) then
 (ob (F.f_k N (s.getD (Int.toNat t8) dSpot) fpc0) (false, []) fun r_1 =>
 bif r_1.1 then
 (some (t8, r_1.2))
 else
 (next (IntKind.i64.wrap (t8 + 1)) r_1.2)) else none) else none)
 else
 (some (-1, fpc0))
def f_3_0 (N : Nat) (s : List Spot) (t7 : Int) : Nat → Int → Txt → Option (Int × Txt) := lp (fun _ _ => none) fun next => f_3_0r N s t7 next
def f_3b (N : Nat) (I0 : (List Spot) → Int → Nat → Int → Txt → Option (Int × Txt)) (s : List Spot) (p1 : Txt) : Option (Int × Txt) :=
 I0 s (↑s.length : Int) N 0 p1
def f_3 (N : Nat) (s : List Spot) (p1 : Txt) : Option (Int × Txt) := f_3b N (f_3_0 N) s p1
def f_t (N : Nat) (b : Book) (n : Txt) : Option Int :=
 ob (F.f_3 N b.2.1 n) (Int.ofNat 0, []) fun r =>
 some r.1
def f_1a (N : Nat) (s : Txt) (p1 : List Txt) : Option (Bool × List Txt) :=
 ob (F.f_f N p1 s) false fun r =>
 some (!r, p1)
def f_d_0r (N : Nat) (s : List Txt) (t7 : Int) (next : Int → (List Txt) → Option (Int × List Txt)) : Int → (List Txt) → Option (Int × List Txt) := fun t8 fpc0 =>
 bif decide (t8 < t7) then
 (bif decide (0 ≤ t8) then
 (bif decide (t8 < (↑s.length : Int)) then
 (ob (F.f_1a N (s.getD (Int.toNat t8) []) fpc0) (false, []) fun r_1 =>
 bif r_1.1 then
 (some (t8, r_1.2))
 else
 (next (IntKind.i64.wrap (t8 + 1)) r_1.2)) else none) else none)
 else
 (some (-1, fpc0))
def f_d_0 (N : Nat) (s : List Txt) (t7 : Int) : Nat → Int → (List Txt) → Option (Int × List Txt) := lp (fun _ _ => none) fun next => f_d_0r N s t7 next
def f_db (N : Nat) (I0 : (List Txt) → Int → Nat → Int → (List Txt) → Option (Int × List Txt)) (s : List Txt) (p1 : List Txt) : Option (Int × List Txt) :=
 I0 s (↑s.length : Int) N 0 p1
def f_d (N : Nat) (s : List Txt) (p1 : List Txt) : Option (Int × List Txt) := f_db N (f_d_0 N) s p1
def f_a (N : Nat) (s : List Txt) (p1 : List Txt) : Option (Bool × List Txt) :=
 ob (F.f_d N s p1) (Int.ofNat 0, []) fun r =>
 some (decide (r.1 ≥ 0), r.2)
def f_2b (N : Nat) (a : List Txt) (b : List Txt) : Option Bool :=
 ob (F.f_a N a b) (false, []) fun r =>
 some (!r.1)
def f_l_0r (N : Nat) (b : Book) (w : Want) (t9 : Int) (next : Int → Option Bool) : Int → Option Bool := fun t10 =>
 bif decide (t10 < t9) then
 (bif decide (0 ≤ t10) then
 (bif decide (t10 < (↑(List.length w.2.2.2.1) : Int)) then
 (ob (F.f_t N b (List.getD w.2.2.2.1 (Int.toNat t10) dUse).1) (Int.ofNat 0) fun r =>
 bif decide (r < 0) then
 (some false)
 else
 (next (IntKind.i64.wrap (t10 + 1)))) else none) else none)
 else
 (ob (F.f_2b N w.2.2.2.2.1 b.2.2.1) false fun r_1 =>
 bif r_1 then
 (ob (F.f_2b N w.2.2.2.2.2 b.2.2.1) false fun r_2 =>
 some r_2)
 else
 (some false))
def f_l_0 (N : Nat) (b : Book) (w : Want) (t9 : Int) : Nat → Int → Option Bool := lp (fun _ => none) fun next => f_l_0r N b w t9 next
def f_lb (N : Nat) (I0 : Book → Want → Int → Nat → Int → Option Bool) (b : Book) (w : Want) : Option Bool :=
 I0 b w (↑(List.length w.2.2.2.1) : Int) N 0
def f_l (N : Nat) (b : Book) (w : Want) : Option Bool := f_lb N (f_l_0 N) b w
def f_g_0r (N : Nat) (b : Book) (p : Part) (t29 : Int) (next : Int → Option Bool) : Int → Option Bool := fun t30 =>
 bif decide (t30 < t29) then
 (bif decide (0 ≤ t30) then
 (bif decide (t30 < (↑(List.length p.1.2.2.2.1) : Int)) then
 (ob (F.f_t N b (List.getD p.1.2.2.2.1 (Int.toNat t30) dUse).1) (Int.ofNat 0) fun r_2 =>
 bif decide (0 ≤ r_2) then
 (bif decide (r_2 < (↑(List.length b.2.1) : Int)) then
 (bif decide (IntKind.i64.wrap ((List.getD b.2.1 (Int.toNat r_2) dSpot).2.2.1 + (List.getD p.1.2.2.2.1 (Int.toNat t30) dUse).2.2) > (List.getD b.2.1 (Int.toNat r_2) dSpot).2.2.2.1) then
 (some false)
 else
 (bif p.1.2.1 == 2 then
 (bif (List.getD b.2.1 (Int.toNat r_2) dSpot).2.2.2.1 != 0 then
 (some false)
 else
 (bif p.1.2.1 == 1 then
 (bif (List.getD p.1.2.2.2.1 (Int.toNat t30) dUse).2.1 != 2 then
 (ob (F.f_2b N (List.getD b.2.1 (Int.toNat r_2) dSpot).2.2.2.2 p.1.2.2.1) false fun r_3 =>
 bif !r_3 then
 (some false)
 else
 (bif (List.getD p.1.2.2.2.1 (Int.toNat t30) dUse).2.1 != 1 then
 (ob (F.f_2b N p.1.2.2.1 (List.getD b.2.1 (Int.toNat r_2) dSpot).2.2.2.2) false fun r_4 =>
 bif !r_4 then
 (some false)
 else
 (next (IntKind.i64.wrap (t30 + 1))))
 else
 (next (IntKind.i64.wrap (t30 + 1)))))
 else
 (bif (List.getD p.1.2.2.2.1 (Int.toNat t30) dUse).2.1 != 1 then
 (ob (F.f_2b N p.1.2.2.1 (List.getD b.2.1 (Int.toNat r_2) dSpot).2.2.2.2) false fun r_5 =>
 bif !r_5 then
 (some false)
 else
 (next (IntKind.i64.wrap (t30 + 1))))
 else
 (next (IntKind.i64.wrap (t30 + 1)))))
 else
 (next (IntKind.i64.wrap (t30 + 1)))))
 else
 (bif p.1.2.1 == 1 then
 (bif (List.getD p.1.2.2.2.1 (Int.toNat t30) dUse).2.1 != 2 then
 (ob (F.f_2b N (List.getD b.2.1 (Int.toNat r_2) dSpot).2.2.2.2 p.1.2.2.1) false fun r_6 =>
 bif !r_6 then
 (some false)
 else
 (bif (List.getD p.1.2.2.2.1 (Int.toNat t30) dUse).2.1 != 1 then
 (ob (F.f_2b N p.1.2.2.1 (List.getD b.2.1 (Int.toNat r_2) dSpot).2.2.2.2) false fun r_7 =>
 bif !r_7 then
 (some false)
 else
 (next (IntKind.i64.wrap (t30 + 1))))
 else
 (next (IntKind.i64.wrap (t30 + 1)))))
 else
 (bif (List.getD p.1.2.2.2.1 (Int.toNat t30) dUse).2.1 != 1 then
 (ob (F.f_2b N p.1.2.2.1 (List.getD b.2.1 (Int.toNat r_2) dSpot).2.2.2.2) false fun r_8 =>
 bif !r_8 then
 (some false)
 else
 (next (IntKind.i64.wrap (t30 + 1))))
 else
 (next (IntKind.i64.wrap (t30 + 1)))))
 else
 (next (IntKind.i64.wrap (t30 + 1)))))) else none) else none) else none) else none)
 else
 (some true)
def f_g_0 (N : Nat) (b : Book) (p : Part) (t29 : Int) : Nat → Int → Option Bool := lp (fun _ => none) fun next => f_g_0r N b p t29 next
def f_gb (N : Nat) (I0 : Book → Part → Int → Nat → Int → Option Bool) (b : Book) (p : Part) : Option Bool :=
 bif decide (p.1.1 > b.2.2.2.2) then
 (some false)
 else
 (ob (F.f_y N p.1) false fun r =>
 bif !r then
 (some false)
 else
 (ob (F.f_l N b p.1) false fun r_1 =>
 bif !r_1 then
 (some false)
 else
 (I0 b p (↑(List.length p.1.2.2.2.1) : Int) N 0)))
def f_g (N : Nat) (b : Book) (p : Part) : Option Bool := f_gb N (f_g_0 N) b p
def f_z (N : Nat) (v : Use) (p1 : Use) : Option (Bool × Use) :=
 some (p1.1 == v.1, p1)
def f_8_0r (N : Nat) (s : List Use) (t7 : Int) (next : Int → Txt → Int → Int → Option (Int × Use)) : Int → Txt → Int → Int → Option (Int × Use) := fun t8 fpc0 fpc1 fpc2 =>
 bif decide (t8 < t7) then
 (bif decide (0 ≤ t8) then
 (bif decide (t8 < (↑s.length : Int)) then
 (ob (F.f_z N (s.getD (Int.toNat t8) dUse) (fpc0, fpc1, fpc2)) (false, [], Int.ofNat 0, Int.ofNat 0) fun r_1 =>
 bif r_1.1 then
 (some (t8, r_1.2))
 else
 (next (IntKind.i64.wrap (t8 + 1)) r_1.2.1 r_1.2.2.1 r_1.2.2.2)) else none) else none)
 else
 (some (-1, fpc0, fpc1, fpc2))
def f_8_0 (N : Nat) (s : List Use) (t7 : Int) : Nat → Int → Txt → Int → Int → Option (Int × Use) := lp (fun _ _ _ _ => none) fun next => f_8_0r N s t7 next
def f_8b (N : Nat) (I0 : (List Use) → Int → Nat → Int → Txt → Int → Int → Option (Int × Use)) (s : List Use) (p1 : Use) : Option (Int × Use) :=
 I0 s (↑s.length : Int) N 0 p1.1 p1.2.1 p1.2.2
def f_8 (N : Nat) (s : List Use) (p1 : Use) : Option (Int × Use) := f_8b N (f_8_0 N) s p1
def f_4 (N : Nat) (s : List Use) (p1 : Use) : Option (Bool × Use) :=
 ob (F.f_8 N s p1) (Int.ofNat 0, [], Int.ofNat 0, Int.ofNat 0) fun r =>
 some (decide (r.1 ≥ 0), r.2)
def f_1o (N : Nat) (u : Use) (p1 : Want) : Option (Bool × Want) :=
 ob (F.f_4 N p1.2.2.2.1 u) (false, [], Int.ofNat 0, Int.ofNat 0) fun r =>
 some (r.1, p1)
def f_b_0r (N : Nat) (s : List Use) (t7 : Int) (next : Int → Int → Int → (List Txt) → (List Use) → (List Txt) → (List Txt) → Option (Int × Want)) : Int → Int → Int → (List Txt) → (List Use) → (List Txt) → (List Txt) → Option (Int × Want) := fun t8 fpc0 fpc1 fpc2 fpc3 fpc4 fpc5 =>
 bif decide (t8 < t7) then
 (bif decide (0 ≤ t8) then
 (bif decide (t8 < (↑s.length : Int)) then
 (ob (F.f_1o N (s.getD (Int.toNat t8) dUse) (fpc0, fpc1, fpc2, fpc3, fpc4, fpc5)) (false, Int.ofNat 0, Int.ofNat 0, [], [], [], []) fun r_1 =>
 bif r_1.1 then
 (some (t8, r_1.2))
 else
 (next (IntKind.i64.wrap (t8 + 1)) r_1.2.1 r_1.2.2.1 r_1.2.2.2.1 r_1.2.2.2.2.1 r_1.2.2.2.2.2.1 r_1.2.2.2.2.2.2)) else none) else none)
 else
 (some (-1, fpc0, fpc1, fpc2, fpc3, fpc4, fpc5))
def f_b_0 (N : Nat) (s : List Use) (t7 : Int) : Nat → Int → Int → Int → (List Txt) → (List Use) → (List Txt) → (List Txt) → Option (Int × Want) := lp (fun _ _ _ _ _ _ _ => none) fun next => f_b_0r N s t7 next
def f_bb (N : Nat) (I0 : (List Use) → Int → Nat → Int → Int → Int → (List Txt) → (List Use) → (List Txt) → (List Txt) → Option (Int × Want)) (s : List Use) (p1 : Want) : Option (Int × Want) :=
 I0 s (↑s.length : Int) N 0 p1.1 p1.2.1 p1.2.2.1 p1.2.2.2.1 p1.2.2.2.2.1 p1.2.2.2.2.2
def f_b (N : Nat) (s : List Use) (p1 : Want) : Option (Int × Want) := f_bb N (f_b_0 N) s p1
def f_7 (N : Nat) (s : List Use) (p1 : Want) : Option (Bool × Want) :=
 ob (F.f_b N s p1) (Int.ofNat 0, Int.ofNat 0, Int.ofNat 0, [], [], [], []) fun r =>
 some (decide (r.1 ≥ 0), r.2)
def f_2s (N : Nat) (a : Want) (b : Want) : Option Bool :=
 ob (F.f_7 N a.2.2.2.1 b) (false, Int.ofNat 0, Int.ofNat 0, [], [], [], []) fun r =>
 some r.1
def f_2q (N : Nat) (a : Want) (b : Want) : Option Bool :=
 ob (F.f_2a N a.2.2.2.2.1 b.2.2.2.2.1) false fun r =>
 bif r then
 (some true)
 else
 (ob (F.f_2a N a.2.2.2.2.1 b.2.2.2.2.2) false fun r_1 =>
 bif r_1 then
 (some true)
 else
 (ob (F.f_2a N a.2.2.2.2.2 b.2.2.2.2.1) false fun r_2 =>
 some r_2))
def f_x_6r (N : Nat) (nx4 : Int → Option Bool) (b : Book) (t150 : Int) (t151 : Int) (t181 : List Part) (t182 : Int) (p8c0 : Int) (p8c1 : Int) (p8c2 : List Txt) (p8c3 : List Use) (p8c4 : List Txt) (p8c5 : List Txt) (p8c6 : Bool) (next : Int → Option Bool) : Int → Option Bool := fun t183 =>
 bif decide (t183 < t182) then
 (bif decide (0 ≤ t183) then
 (bif decide (t183 < (↑(List.length t181) : Int)) then
 (ob (F.f_2s N (p8c0, p8c1, p8c2, p8c3, p8c4, p8c5) (List.getD t181 (Int.toNat t183) dPart).1) false fun r_13 =>
 bif r_13 then
 (some false)
 else
 (ob (F.f_2q N (p8c0, p8c1, p8c2, p8c3, p8c4, p8c5) (List.getD t181 (Int.toNat t183) dPart).1) false fun r_14 =>
 bif r_14 then
 (some false)
 else
 (next (IntKind.i64.wrap (t183 + 1))))) else none) else none)
 else
 (nx4 (IntKind.i64.wrap (t151 + 1)))
def f_x_6 (N : Nat) (nx4 : Int → Option Bool) (b : Book) (t150 : Int) (t151 : Int) (t181 : List Part) (t182 : Int) (p8c0 : Int) (p8c1 : Int) (p8c2 : List Txt) (p8c3 : List Use) (p8c4 : List Txt) (p8c5 : List Txt) (p8c6 : Bool) : Nat → Int → Option Bool := lp (fun _ => none) fun next => f_x_6r N nx4 b t150 t151 t181 t182 p8c0 p8c1 p8c2 p8c3 p8c4 p8c5 p8c6 next
def f_x_4r (N : Nat) (I0 : Int → (List Part) → Int → Int → Int → (List Txt) → (List Use) → (List Txt) → (List Txt) → Bool → Nat → Int → Option Bool) (b : Book) (t150 : Int) (next : Int → Option Bool) : Int → Option Bool := fun t151 =>
 bif decide (t151 < t150) then
 (bif decide (0 ≤ t151) then
 (bif decide (t151 < (↑(List.length b.2.2.2.1) : Int)) then
 (bif decide (t151 > 0) then
 (bif decide (0 ≤ IntKind.i64.wrap (t151 - 1)) then
 (bif decide (IntKind.i64.wrap (t151 - 1) < (↑(List.length b.2.2.2.1) : Int)) then
 (bif decide ((List.getD b.2.2.2.1 (IntKind.i64.wrap (t151 - 1)).toNat dPart).1.1 ≥ (List.getD b.2.2.2.1 (Int.toNat t151) dPart).1.1) then
 (some false)
 else
 (ob (F.f_g N b (List.getD b.2.2.2.1 (Int.toNat t151) dPart)) false fun r_12 =>
 bif !r_12 then
 (some false)
 else
 (bif decide (0 ≤ t151) then
 (bif decide (t151 ≤ (↑(List.length b.2.2.2.1) : Int)) then
 (I0 t151 (List.drop (Int.toNat 0) (List.take (Int.toNat t151) b.2.2.2.1)) (↑(List.drop (Int.toNat 0) (List.take (Int.toNat t151) b.2.2.2.1)).length : Int) ((List.getD b.2.2.2.1 (Int.toNat t151) dPart).1.1) ((List.getD b.2.2.2.1 (Int.toNat t151) dPart).1.2.1) ((List.getD b.2.2.2.1 (Int.toNat t151) dPart).1.2.2.1) ((List.getD b.2.2.2.1 (Int.toNat t151) dPart).1.2.2.2.1) ((List.getD b.2.2.2.1 (Int.toNat t151) dPart).1.2.2.2.2.1) ((List.getD b.2.2.2.1 (Int.toNat t151) dPart).1.2.2.2.2.2) ((List.getD b.2.2.2.1 (Int.toNat t151) dPart).2) N 0) else none) else none))) else none) else none)
 else
 (ob (F.f_g N b (List.getD b.2.2.2.1 (Int.toNat t151) dPart)) false fun r_15 =>
 bif !r_15 then
 (some false)
 else
 (bif decide (0 ≤ t151) then
 (bif decide (t151 ≤ (↑(List.length b.2.2.2.1) : Int)) then
 (I0 t151 (List.drop (Int.toNat 0) (List.take (Int.toNat t151) b.2.2.2.1)) (↑(List.drop (Int.toNat 0) (List.take (Int.toNat t151) b.2.2.2.1)).length : Int) ((List.getD b.2.2.2.1 (Int.toNat t151) dPart).1.1) ((List.getD b.2.2.2.1 (Int.toNat t151) dPart).1.2.1) ((List.getD b.2.2.2.1 (Int.toNat t151) dPart).1.2.2.1) ((List.getD b.2.2.2.1 (Int.toNat t151) dPart).1.2.2.2.1) ((List.getD b.2.2.2.1 (Int.toNat t151) dPart).1.2.2.2.2.1) ((List.getD b.2.2.2.1 (Int.toNat t151) dPart).1.2.2.2.2.2) ((List.getD b.2.2.2.1 (Int.toNat t151) dPart).2) N 0) else none) else none))) else none) else none)
 else
 (some true)
def f_x_4 (N : Nat) (b : Book) (t150 : Int) : Nat → Int → Option Bool := lp (fun _ => none) fun next => f_x_4r N (f_x_6 N next b t150) b t150 next
def f_x_2r (N : Nat) (I1 : Book → Int → Nat → Int → Option Bool) (b : Book) (t82 : Int) (next : Int → Option Bool) : Int → Option Bool := fun t83 =>
 bif decide (t83 < t82) then
 (bif decide (0 ≤ t83) then
 (bif decide (t83 < (↑(List.length b.2.1) : Int)) then
 (ob (F.f_34 N (List.getD b.2.1 (Int.toNat t83) dSpot).1) false fun r_5 =>
 bif !r_5 then
 (some false)
 else
 (bif decide (t83 > 0) then
 (bif decide (0 ≤ IntKind.i64.wrap (t83 - 1)) then
 (bif decide (IntKind.i64.wrap (t83 - 1) < (↑(List.length b.2.1) : Int)) then
 (bif !Op.bytesLess (List.getD b.2.1 (IntKind.i64.wrap (t83 - 1)).toNat dSpot).1 (List.getD b.2.1 (Int.toNat t83) dSpot).1 then
 (some false)
 else
 (ob (F.f_39 N (List.getD b.2.1 (Int.toNat t83) dSpot).2.1 0 1000) false fun r_6 =>
 bif !r_6 then
 (some false)
 else
 (bif decide ((List.getD b.2.1 (Int.toNat t83) dSpot).2.2.1 < 0) then
 (some false)
 else
 (bif decide ((List.getD b.2.1 (Int.toNat t83) dSpot).2.2.1 > (List.getD b.2.1 (Int.toNat t83) dSpot).2.2.2.1) then
 (some false)
 else
 (bif decide ((List.getD b.2.1 (Int.toNat t83) dSpot).2.2.2.1 > (List.getD b.2.1 (Int.toNat t83) dSpot).2.1) then
 (some false)
 else
 (ob (F.f_2r N (List.getD b.2.1 (Int.toNat t83) dSpot).2.2.2.2 8) false fun r_7 =>
 bif !r_7 then
 (some false)
 else
 (ob (F.f_m N b (List.getD b.2.1 (Int.toNat t83) dSpot).2.2.2.2 (List.getD b.2.1 (Int.toNat t83) dSpot).2.2.2.2) false fun r_8 =>
 bif r_8 then
 (some false)
 else
 (next (IntKind.i64.wrap (t83 + 1)))))))))) else none) else none)
 else
 (ob (F.f_39 N (List.getD b.2.1 (Int.toNat t83) dSpot).2.1 0 1000) false fun r_9 =>
 bif !r_9 then
 (some false)
 else
 (bif decide ((List.getD b.2.1 (Int.toNat t83) dSpot).2.2.1 < 0) then
 (some false)
 else
 (bif decide ((List.getD b.2.1 (Int.toNat t83) dSpot).2.2.1 > (List.getD b.2.1 (Int.toNat t83) dSpot).2.2.2.1) then
 (some false)
 else
 (bif decide ((List.getD b.2.1 (Int.toNat t83) dSpot).2.2.2.1 > (List.getD b.2.1 (Int.toNat t83) dSpot).2.1) then
 (some false)
 else
 (ob (F.f_2r N (List.getD b.2.1 (Int.toNat t83) dSpot).2.2.2.2 8) false fun r_10 =>
 bif !r_10 then
 (some false)
 else
 (ob (F.f_m N b (List.getD b.2.1 (Int.toNat t83) dSpot).2.2.2.2 (List.getD b.2.1 (Int.toNat t83) dSpot).2.2.2.2) false fun r_11 =>
 bif r_11 then
 (some false)
 else
 (next (IntKind.i64.wrap (t83 + 1))))))))))) else none) else none)
 else
 (I1 b (↑(List.length b.2.2.2.1) : Int) N 0)
def f_x_2 (N : Nat) (b : Book) (t82 : Int) : Nat → Int → Option Bool := lp (fun _ => none) fun next => f_x_2r N (f_x_4 N) b t82 next
def f_x_0r (N : Nat) (I2 : Book → Int → Nat → Int → Option Bool) (b : Book) (t41 : Int) (next : Int → Option Bool) : Int → Option Bool := fun t42 =>
 bif decide (t42 < t41) then
 (bif decide (0 ≤ t42) then
 (bif decide (t42 < (↑(List.length b.1) : Int)) then
 (ob (F.f_34 N (List.getD b.1 (Int.toNat t42) dFoe).1) false fun r_2 =>
 bif !r_2 then
 (some false)
 else
 (ob (F.f_34 N (List.getD b.1 (Int.toNat t42) dFoe).2) false fun r_3 =>
 bif !r_3 then
 (some false)
 else
 (bif !Op.bytesLess (List.getD b.1 (Int.toNat t42) dFoe).1 (List.getD b.1 (Int.toNat t42) dFoe).2 then
 (some false)
 else
 (bif decide (t42 > 0) then
 (bif decide (0 ≤ IntKind.i64.wrap (t42 - 1)) then
 (bif decide (IntKind.i64.wrap (t42 - 1) < (↑(List.length b.1) : Int)) then
 (ob (F.f_o N (List.getD b.1 (IntKind.i64.wrap (t42 - 1)).toNat dFoe) (List.getD b.1 (Int.toNat t42) dFoe)) false fun r_4 =>
 bif !r_4 then
 (some false)
 else
 (next (IntKind.i64.wrap (t42 + 1)))) else none) else none)
 else
 (next (IntKind.i64.wrap (t42 + 1))))))) else none) else none)
 else
 (I2 b (↑(List.length b.2.1) : Int) N 0)
def f_x_0 (N : Nat) (b : Book) (t41 : Int) : Nat → Int → Option Bool := lp (fun _ => none) fun next => f_x_0r N (f_x_2 N) b t41 next
def f_xb (N : Nat) (I3 : Book → Int → Nat → Int → Option Bool) (b : Book) : Option Bool :=
 bif decide ((↑(List.length b.1) : Int) > 12) then
 (some false)
 else
 (bif decide ((↑(List.length b.2.1) : Int) > 8) then
 (some false)
 else
 (bif decide ((↑(List.length b.2.2.2.1) : Int) > 6) then
 (some false)
 else
 (ob (F.f_2r N b.2.2.1 12) false fun r =>
 bif !r then
 (some false)
 else
 (ob (F.f_39 N b.2.2.2.2 0 1000000) false fun r_1 =>
 bif !r_1 then
 (some false)
 else
 (I3 b (↑(List.length b.1) : Int) N 0)))))
def f_x (N : Nat) (b : Book) : Option Bool := f_xb N (f_x_0 N) b
def f_1l_0r (N : Nat) (b : Book) (valve : Txt) (t12 : Int) (next : Int → Option Int) : Int → Option Int := fun t13 =>
 bif decide (t13 < t12) then
 (bif decide (0 ≤ t13) then
 (bif decide (t13 < (↑(List.length b.2.2.2.1) : Int)) then
 (bif !(List.getD b.2.2.2.1 (Int.toNat t13) dPart).2 then
 (ob (F.f_f N (List.getD b.2.2.2.1 (Int.toNat t13) dPart).1.2.2.2.2.1 valve) false fun r_1 =>
 bif r_1 then
 (some ((List.getD b.2.2.2.1 (Int.toNat t13) dPart).1.1))
 else
 (next (IntKind.i64.wrap (t13 + 1))))
 else
 (next (IntKind.i64.wrap (t13 + 1)))) else none) else none)
 else
 (some 0)
def f_1l_0 (N : Nat) (b : Book) (valve : Txt) (t12 : Int) : Nat → Int → Option Int := lp (fun _ => none) fun next => f_1l_0r N b valve t12 next
def f_1lb (N : Nat) (I0 : Book → Txt → Int → Nat → Int → Option Int) (b : Book) (valve : Txt) : Option Int :=
 ob (F.f_x N b) false fun r =>
 bif !r then
 (some 0)
 else
 (I0 b valve (↑(List.length b.2.2.2.1) : Int) N 0)
def f_1l (N : Nat) (b : Book) (valve : Txt) : Option Int := f_1lb N (f_1l_0 N) b valve
def f_17_0r (N : Nat) (b : Book) (valve : Txt) (t14 : Int) (next : Int → (List Int) → Option (List Int)) : Int → (List Int) → Option (List Int) := fun t15 out5a =>
 bif decide (t15 < t14) then
 (bif decide (0 ≤ t15) then
 (bif decide (t15 < (↑(List.length b.2.2.2.1) : Int)) then
 (ob (F.f_f N (List.getD b.2.2.2.1 (Int.toNat t15) dPart).1.2.2.2.2.2 valve) false fun r_1 =>
 bif r_1 then
 (bif decide ((out5a.length + [(List.getD b.2.2.2.1 (Int.toNat t15) dPart).1.1].length) * 8 ≤ lim) then
 (next (IntKind.i64.wrap (t15 + 1)) (out5a ++ [(List.getD b.2.2.2.1 (Int.toNat t15) dPart).1.1])) else none)
 else
 (next (IntKind.i64.wrap (t15 + 1)) out5a)) else none) else none)
 else
 (some out5a)
def f_17_0 (N : Nat) (b : Book) (valve : Txt) (t14 : Int) : Nat → Int → (List Int) → Option (List Int) := lp (fun _ _ => none) fun next => f_17_0r N b valve t14 next
def f_17b (N : Nat) (I0 : Book → Txt → Int → Nat → Int → (List Int) → Option (List Int)) (b : Book) (valve : Txt) : Option (List Int) :=
 ob (F.f_x N b) false fun r =>
 bif !r then
 (some [])
 else
 (I0 b valve (↑(List.length b.2.2.2.1) : Int) N 0 [])
def f_17 (N : Nat) (b : Book) (valve : Txt) : Option (List Int) := f_17b N (f_17_0 N) b valve
def f_1p_0r (N : Nat) (b : Book) (valve : Txt) (next : Int → Option Int) : Int → Option Int := fun i5 =>
 bif decide (i5 < (↑(List.length b.2.2.2.1) : Int)) then
 (bif decide (0 ≤ i5) then
 (bif decide (i5 < (↑(List.length b.2.2.2.1) : Int)) then
 (bif !(List.getD b.2.2.2.1 (Int.toNat i5) dPart).2 then
 (bif decide (0 ≤ i5) then
 (bif decide (i5 < (↑(List.length b.2.2.2.1) : Int)) then
 (ob (F.f_2z N (List.getD b.2.2.2.1 (Int.toNat i5) dPart).1.2.2.2.2.1 valve) false fun r_1 =>
 bif r_1 then
 (bif decide (0 ≤ i5) then
 (bif decide (i5 < (↑(List.length b.2.2.2.1) : Int)) then
 (some ((List.getD b.2.2.2.1 (Int.toNat i5) dPart).1.1)) else none) else none)
 else
 (next (IntKind.i64.wrap (i5 + 1)))) else none) else none)
 else
 (next (IntKind.i64.wrap (i5 + 1)))) else none) else none)
 else
 (some 0)
def f_1p_0 (N : Nat) (b : Book) (valve : Txt) : Nat → Int → Option Int := lp (fun _ => none) fun next => f_1p_0r N b valve next
def f_1pb (N : Nat) (I0 : Book → Txt → Nat → Int → Option Int) (b : Book) (valve : Txt) : Option Int :=
 ob (F.f_10 N b) false fun r =>
 bif !r then
 (some 0)
 else
 (I0 b valve N 0)
def f_1p (N : Nat) (b : Book) (valve : Txt) : Option Int := f_1pb N (f_1p_0 N) b valve
def f_1d_0r (N : Nat) (b : Book) (valve : Txt) (next : Int → (List Int) → Option (List Int)) : Int → (List Int) → Option (List Int) := fun i6 out5a =>
 bif decide (i6 < (↑(List.length b.2.2.2.1) : Int)) then
 (bif decide (0 ≤ i6) then
 (bif decide (i6 < (↑(List.length b.2.2.2.1) : Int)) then
 (ob (F.f_2z N (List.getD b.2.2.2.1 (Int.toNat i6) dPart).1.2.2.2.2.2 valve) false fun r_1 =>
 bif r_1 then
 (bif decide (0 ≤ i6) then
 (bif decide (i6 < (↑(List.length b.2.2.2.1) : Int)) then
 (bif decide ((out5a.length + [(List.getD b.2.2.2.1 (Int.toNat i6) dPart).1.1].length) * 8 ≤ lim) then
 (next (IntKind.i64.wrap (i6 + 1)) (out5a ++ [(List.getD b.2.2.2.1 (Int.toNat i6) dPart).1.1])) else none) else none) else none)
 else
 (next (IntKind.i64.wrap (i6 + 1)) out5a)) else none) else none)
 else
 (some out5a)
def f_1d_0 (N : Nat) (b : Book) (valve : Txt) : Nat → Int → (List Int) → Option (List Int) := lp (fun _ _ => none) fun next => f_1d_0r N b valve next
def f_1db (N : Nat) (I0 : Book → Txt → Nat → Int → (List Int) → Option (List Int)) (b : Book) (valve : Txt) : Option (List Int) :=
 ob (F.f_10 N b) false fun r =>
 bif !r then
 (some [])
 else
 (I0 b valve N 0 [])
def f_1d (N : Nat) (b : Book) (valve : Txt) : Option (List Int) := f_1db N (f_1d_0 N) b valve
def f_2v_0r (N : Nat) (a : List Int) (b : List Int) (next : Int → Option Bool) : Int → Option Bool := fun i5 =>
 bif decide (i5 < (↑a.length : Int)) then
 (bif decide (0 ≤ i5) then
 (bif decide (i5 < (↑a.length : Int)) then
 (bif decide (0 ≤ i5) then
 (bif decide (i5 < (↑b.length : Int)) then
 (bif a.getD (Int.toNat i5) (Int.ofNat 0) != b.getD (Int.toNat i5) (Int.ofNat 0) then
 (some false)
 else
 (next (IntKind.i64.wrap (i5 + 1)))) else none) else none) else none) else none)
 else
 (some true)
def f_2v_0 (N : Nat) (a : List Int) (b : List Int) : Nat → Int → Option Bool := lp (fun _ => none) fun next => f_2v_0r N a b next
def f_2vb (N : Nat) (I0 : (List Int) → (List Int) → Nat → Int → Option Bool) (a : List Int) (b : List Int) : Option Bool :=
 bif (↑a.length : Int) != (↑b.length : Int) then
 (some false)
 else
 (I0 a b N 0)
def f_2v (N : Nat) (a : List Int) (b : List Int) : Option Bool := f_2vb N (f_2v_0 N) a b
def f_2w_0r (N : Nat) (b : Book) (number : Int) (t4c0 : Int) (t4c1 : Int) (next : Int → Option Want) : Int → Option Want := fun i5 =>
 bif decide (i5 < (↑(List.length b.2.2.2.1) : Int)) then
 (bif decide (0 ≤ i5) then
 (bif decide (i5 < (↑(List.length b.2.2.2.1) : Int)) then
 (bif (List.getD b.2.2.2.1 (Int.toNat i5) dPart).1.1 == number then
 (bif decide (0 ≤ i5) then
 (bif decide (i5 < (↑(List.length b.2.2.2.1) : Int)) then
 (some ((List.getD b.2.2.2.1 (Int.toNat i5) dPart).1)) else none) else none)
 else
 (next (IntKind.i64.wrap (i5 + 1)))) else none) else none)
 else
 (some (0, 0, [], [], [], []))
def f_2w_0 (N : Nat) (b : Book) (number : Int) (t4c0 : Int) (t4c1 : Int) : Nat → Int → Option Want := lp (fun _ => none) fun next => f_2w_0r N b number t4c0 t4c1 next
def f_2wb (N : Nat) (I0 : Book → Int → Int → Int → Nat → Int → Option Want) (b : Book) (number : Int) : Option Want :=
 I0 b number 0 0 N 0
def f_2w (N : Nat) (b : Book) (number : Int) : Option Want := f_2wb N (f_2w_0 N) b number
def f_36_0r (N : Nat) (list : List Txt) (name : Txt) (next : Int → Option Bool) : Int → Option Bool := fun i5 =>
 bif decide (i5 < (↑list.length : Int)) then
 (bif decide (0 ≤ i5) then
 (bif decide (i5 < (↑list.length : Int)) then
 (bif list.getD (Int.toNat i5) [] == name then
 (some true)
 else
 (next (IntKind.i64.wrap (i5 + 1)))) else none) else none)
 else
 (some false)
def f_36_0 (N : Nat) (list : List Txt) (name : Txt) : Nat → Int → Option Bool := lp (fun _ => none) fun next => f_36_0r N list name next
def f_36b (N : Nat) (I0 : (List Txt) → Txt → Nat → Int → Option Bool) (list : List Txt) (name : Txt) : Option Bool :=
 I0 list name N 0
def f_36 (N : Nat) (list : List Txt) (name : Txt) : Option Bool := f_36b N (f_36_0 N) list name
def f_s (N : Nat) (code : List Int) : Option (Book × Int) :=
 bif decide ((↑code.length : Int) > 2000) then
 (bif decide (2000 ≤ (↑(List.length code) : Int)) then
 (ob (F.f_31 N (List.drop (Int.toNat 0) (List.take (Int.toNat 2000) code), 0)) (([], [], [], [], Int.ofNat 0), [], Int.ofNat 0) fun r =>
 ob (F.f_38 N r.2 r.1) (Int.ofNat 0, [], Int.ofNat 0) fun r_1 =>
 some (r.1, r_1.1)) else none)
 else
 (ob (F.f_31 N (code, 0)) (([], [], [], [], Int.ofNat 0), [], Int.ofNat 0) fun r_2 =>
 ob (F.f_38 N r_2.2 r_2.1) (Int.ofNat 0, [], Int.ofNat 0) fun r_3 =>
 some (r_2.1, r_3.1))
def f_h (N : Nat) (s : List Foe) : Option (List Foe) :=
 bif isEmp s then
 (both (some []) (bif decide ((0 + s.length) * 32 ≤ lim) then
 (some ([] ++ s)) else none))
 else
 (bif decide ((0 + s.length) * 32 ≤ lim) then
 (some ([] ++ s)) else none)
def f_p (N : Nat) (s : List Txt) : Option (List Txt) :=
 bif isEmp s then
 (both (some []) (bif decide ((0 + s.length) * 16 ≤ lim) then
 (some ([] ++ s)) else none))
 else
 (bif decide ((0 + s.length) * 16 ≤ lim) then
 (some ([] ++ s)) else none)
def f_i (N : Nat) (s : List Use) : Option (List Use) :=
 bif isEmp s then
 (both (some []) (bif decide ((0 + s.length) * 32 ≤ lim) then
 (some ([] ++ s)) else none))
 else
 (bif decide ((0 + s.length) * 32 ≤ lim) then
 (some ([] ++ s)) else none)
def f_1n (N : Nat) (w : Want) : Option Want :=
 ob (F.f_p N w.2.2.1) [] fun r =>
 ob (F.f_i N w.2.2.2.1) [] fun r_1 =>
 ob (F.f_p N w.2.2.2.2.1) [] fun r_2 =>
 ob (F.f_p N w.2.2.2.2.2) [] fun r_3 =>
 some (w.1, w.2.1, r, r_1, r_2, r_3)
def f_1m_2r (N : Nat) (b : Book) (r : List Foe) (r_1 : List Txt) (t2c4 : Int) (out3c1a : List Spot) (t37 : Int) (next : Int → (List Part) → Option Book) : Int → (List Part) → Option Book := fun t38 out3c3a =>
 bif decide (t38 < t37) then
 (bif decide (0 ≤ t38) then
 (bif decide (t38 < (↑(List.length b.2.2.2.1) : Int)) then
 (ob (F.f_1n N (List.getD b.2.2.2.1 (Int.toNat t38) dPart).1) dWant fun r_3 =>
 bif decide ((out3c3a.length + [(r_3, (List.getD b.2.2.2.1 (Int.toNat t38) dPart).2)].length) * 120 ≤ lim) then
 (next (IntKind.i64.wrap (t38 + 1)) (out3c3a ++ [(r_3, (List.getD b.2.2.2.1 (Int.toNat t38) dPart).2)])) else none) else none) else none)
 else
 (some (r, out3c1a, r_1, out3c3a, b.2.2.2.2))
def f_1m_2 (N : Nat) (b : Book) (r : List Foe) (r_1 : List Txt) (t2c4 : Int) (out3c1a : List Spot) (t37 : Int) : Nat → Int → (List Part) → Option Book := lp (fun _ _ => none) fun next => f_1m_2r N b r r_1 t2c4 out3c1a t37 next
def f_1m_0r (N : Nat) (I0 : Book → (List Foe) → (List Txt) → Int → (List Spot) → Int → Nat → Int → (List Part) → Option Book) (b : Book) (r : List Foe) (r_1 : List Txt) (t19 : Int) (t2c4 : Int) (next : Int → (List Spot) → Option Book) : Int → (List Spot) → Option Book := fun t20 out3c1a =>
 bif decide (t20 < t19) then
 (bif decide (0 ≤ t20) then
 (bif decide (t20 < (↑(List.length b.2.1) : Int)) then
 (ob (F.f_p N (List.getD b.2.1 (Int.toNat t20) dSpot).2.2.2.2) [] fun r_2 =>
 bif decide ((out3c1a.length + [((List.getD b.2.1 (Int.toNat t20) dSpot).1, (List.getD b.2.1 (Int.toNat t20) dSpot).2.1, (List.getD b.2.1 (Int.toNat t20) dSpot).2.2.1, (List.getD b.2.1 (Int.toNat t20) dSpot).2.2.2.1, r_2)].length) * 64 ≤ lim) then
 (next (IntKind.i64.wrap (t20 + 1)) (out3c1a ++ [((List.getD b.2.1 (Int.toNat t20) dSpot).1, (List.getD b.2.1 (Int.toNat t20) dSpot).2.1, (List.getD b.2.1 (Int.toNat t20) dSpot).2.2.1, (List.getD b.2.1 (Int.toNat t20) dSpot).2.2.2.1, r_2)])) else none) else none) else none)
 else
 (I0 b r r_1 t2c4 out3c1a (↑(List.length b.2.2.2.1) : Int) N 0 [])
def f_1m_0 (N : Nat) (b : Book) (r : List Foe) (r_1 : List Txt) (t19 : Int) (t2c4 : Int) : Nat → Int → (List Spot) → Option Book := lp (fun _ _ => none) fun next => f_1m_0r N (f_1m_2 N) b r r_1 t19 t2c4 next
def f_1mb (N : Nat) (I1 : Book → (List Foe) → (List Txt) → Int → Int → Nat → Int → (List Spot) → Option Book) (b : Book) : Option Book :=
 ob (F.f_h N b.1) [] fun r =>
 ob (F.f_p N b.2.2.1) [] fun r_1 =>
 I1 b r r_1 (↑(List.length b.2.1) : Int) 0 N 0 []
def f_1m (N : Nat) (b : Book) : Option Book := f_1mb N (f_1m_0 N) b
def f_e (N : Nat) (p : Part) (p1 : Int) : Option (Bool × Int) :=
 some (p.1.1 == p1, p1)
def f_0_0r (N : Nat) (s : List Part) (t7 : Int) (next : Int → Int → Option (Int × Int)) : Int → Int → Option (Int × Int) := fun t8 fpc0 =>
 bif decide (t8 < t7) then
 (bif decide (0 ≤ t8) then
 (bif decide (t8 < (↑s.length : Int)) then
 (ob (F.f_e N (s.getD (Int.toNat t8) dPart) fpc0) (false, Int.ofNat 0) fun r_1 =>
 bif r_1.1 then
 (some (t8, r_1.2))
 else
 (next (IntKind.i64.wrap (t8 + 1)) r_1.2)) else none) else none)
 else
 (some (-1, fpc0))
def f_0_0 (N : Nat) (s : List Part) (t7 : Int) : Nat → Int → Int → Option (Int × Int) := lp (fun _ _ => none) fun next => f_0_0r N s t7 next
def f_0b (N : Nat) (I0 : (List Part) → Int → Nat → Int → Int → Option (Int × Int)) (s : List Part) (p1 : Int) : Option (Int × Int) :=
 I0 s (↑s.length : Int) N 0 p1
def f_0 (N : Nat) (s : List Part) (p1 : Int) : Option (Int × Int) := f_0b N (f_0_0 N) s p1
def f_n (N : Nat) (b : Book) (number : Int) : Option Int :=
 ob (F.f_0 N b.2.2.2.1 number) (Int.ofNat 0, Int.ofNat 0) fun r =>
 some r.1
def f_18 (N : Nat) (b : Book) (number : Int) : Option (Book × Int) :=
 ob (F.f_x N b) false fun r =>
 bif !r then
 (some (([], [], [], [], 0), 1))
 else
 (ob (F.f_1m N b) ([], [], [], [], Int.ofNat 0) fun r_1 =>
 ob (F.f_n N b number) (Int.ofNat 0) fun r_2 =>
 bif decide (r_2 < 0) then
 (some (r_1, 3))
 else
 (bif decide (0 ≤ r_2) then
 (bif decide (r_2 < (↑(List.length r_1.2.2.2.1) : Int)) then
 (let t1835as : List Part := List.set r_1.2.2.2.1 (Int.toNat r_2) ((List.getD r_1.2.2.2.1 (Int.toNat r_2) dPart).1, true)
 some ((r_1.1, r_1.2.1, r_1.2.2.1, t1835as, r_1.2.2.2.2), 0)) else none) else none))
def f_2c_0r (N : Nat) (a : List Txt) (b : List Txt) (next : Int → Option Bool) : Int → Option Bool := fun i5 =>
 bif decide (i5 < (↑a.length : Int)) then
 (bif decide (0 ≤ i5) then
 (bif decide (i5 < (↑a.length : Int)) then
 (bif decide (0 ≤ i5) then
 (bif decide (i5 < (↑b.length : Int)) then
 (bif !a.getD (Int.toNat i5) [] == b.getD (Int.toNat i5) [] then
 (some false)
 else
 (next (IntKind.i64.wrap (i5 + 1)))) else none) else none) else none) else none)
 else
 (some true)
def f_2c_0 (N : Nat) (a : List Txt) (b : List Txt) : Nat → Int → Option Bool := lp (fun _ => none) fun next => f_2c_0r N a b next
def f_2cb (N : Nat) (I0 : (List Txt) → (List Txt) → Nat → Int → Option Bool) (a : List Txt) (b : List Txt) : Option Bool :=
 bif (↑a.length : Int) != (↑b.length : Int) then
 (some false)
 else
 (I0 a b N 0)
def f_2c (N : Nat) (a : List Txt) (b : List Txt) : Option Bool := f_2cb N (f_2c_0 N) a b
def f_2x_0r (N : Nat) (a : Want) (b : Want) (next : Int → Option Bool) : Int → Option Bool := fun i5 =>
 bif decide (i5 < (↑(List.length a.2.2.2.1) : Int)) then
 (bif decide (0 ≤ i5) then
 (bif decide (i5 < (↑(List.length a.2.2.2.1) : Int)) then
 (bif decide (0 ≤ i5) then
 (bif decide (i5 < (↑(List.length b.2.2.2.1) : Int)) then
 (bif !((List.getD a.2.2.2.1 (Int.toNat i5) dUse).1 == (List.getD b.2.2.2.1 (Int.toNat i5) dUse).1 && ((List.getD a.2.2.2.1 (Int.toNat i5) dUse).2.1 == (List.getD b.2.2.2.1 (Int.toNat i5) dUse).2.1 && ((List.getD a.2.2.2.1 (Int.toNat i5) dUse).2.2 == (List.getD b.2.2.2.1 (Int.toNat i5) dUse).2.2 && true))) then
 (some false)
 else
 (next (IntKind.i64.wrap (i5 + 1)))) else none) else none) else none) else none)
 else
 (some true)
def f_2x_0 (N : Nat) (a : Want) (b : Want) : Nat → Int → Option Bool := lp (fun _ => none) fun next => f_2x_0r N a b next
def f_2xb (N : Nat) (I0 : Want → Want → Nat → Int → Option Bool) (a : Want) (b : Want) : Option Bool :=
 bif a.1 != b.1 then
 (some false)
 else
 (bif a.2.1 != b.2.1 then
 (some false)
 else
 (bif (↑(List.length a.2.2.2.1) : Int) != (↑(List.length b.2.2.2.1) : Int) then
 (some false)
 else
 (ob (F.f_2c N a.2.2.1 b.2.2.1) false fun r =>
 bif !r then
 (some false)
 else
 (ob (F.f_2c N a.2.2.2.2.1 b.2.2.2.2.1) false fun r_1 =>
 bif !r_1 then
 (some false)
 else
 (ob (F.f_2c N a.2.2.2.2.2 b.2.2.2.2.2) false fun r_2 =>
 bif !r_2 then
 (some false)
 else
 (I0 a b N 0))))))
def f_2x (N : Nat) (a : Want) (b : Want) : Option Bool := f_2xb N (f_2x_0 N) a b
def f_2u_4r (N : Nat) (a : Book) (b : Book) (next : Int → Option Bool) : Int → Option Bool := fun i9 =>
 bif decide (i9 < (↑(List.length a.2.2.2.1) : Int)) then
 (bif decide (0 ≤ i9) then
 (bif decide (i9 < (↑(List.length a.2.2.2.1) : Int)) then
 (bif decide (0 ≤ i9) then
 (bif decide (i9 < (↑(List.length b.2.2.2.1) : Int)) then
 (bif !(List.getD a.2.2.2.1 (Int.toNat i9) dPart).2 == (List.getD b.2.2.2.1 (Int.toNat i9) dPart).2 then
 (some false)
 else
 (bif decide (0 ≤ i9) then
 (bif decide (i9 < (↑(List.length a.2.2.2.1) : Int)) then
 (bif decide (0 ≤ i9) then
 (bif decide (i9 < (↑(List.length b.2.2.2.1) : Int)) then
 (ob (F.f_2x N (List.getD a.2.2.2.1 (Int.toNat i9) dPart).1 (List.getD b.2.2.2.1 (Int.toNat i9) dPart).1) false fun r_2 =>
 bif !r_2 then
 (some false)
 else
 (next (IntKind.i64.wrap (i9 + 1)))) else none) else none) else none) else none)) else none) else none) else none) else none)
 else
 (some true)
def f_2u_4 (N : Nat) (a : Book) (b : Book) : Nat → Int → Option Bool := lp (fun _ => none) fun next => f_2u_4r N a b next
def f_2u_2r (N : Nat) (I0 : Book → Book → Nat → Int → Option Bool) (a : Book) (b : Book) (next : Int → Option Bool) : Int → Option Bool := fun i6 =>
 bif decide (i6 < (↑(List.length a.2.1) : Int)) then
 (bif decide (0 ≤ i6) then
 (bif decide (i6 < (↑(List.length a.2.1) : Int)) then
 (bif decide (0 ≤ i6) then
 (bif decide (i6 < (↑(List.length b.2.1) : Int)) then
 (bif !(List.getD a.2.1 (Int.toNat i6) dSpot).1 == (List.getD b.2.1 (Int.toNat i6) dSpot).1 then
 (some false)
 else
 (bif (List.getD a.2.1 (Int.toNat i6) dSpot).2.1 != (List.getD b.2.1 (Int.toNat i6) dSpot).2.1 then
 (some false)
 else
 (bif (List.getD a.2.1 (Int.toNat i6) dSpot).2.2.1 != (List.getD b.2.1 (Int.toNat i6) dSpot).2.2.1 then
 (some false)
 else
 (bif (List.getD a.2.1 (Int.toNat i6) dSpot).2.2.2.1 != (List.getD b.2.1 (Int.toNat i6) dSpot).2.2.2.1 then
 (some false)
 else
 (ob (F.f_2c N (List.getD a.2.1 (Int.toNat i6) dSpot).2.2.2.2 (List.getD b.2.1 (Int.toNat i6) dSpot).2.2.2.2) false fun r_1 =>
 bif !r_1 then
 (some false)
 else
 (next (IntKind.i64.wrap (i6 + 1)))))))) else none) else none) else none) else none)
 else
 (I0 a b N 0)
def f_2u_2 (N : Nat) (a : Book) (b : Book) : Nat → Int → Option Bool := lp (fun _ => none) fun next => f_2u_2r N (f_2u_4 N) a b next
def f_2u_0r (N : Nat) (I1 : Book → Book → Nat → Int → Option Bool) (a : Book) (b : Book) (next : Int → Option Bool) : Int → Option Bool := fun i5 =>
 bif decide (i5 < (↑(List.length a.1) : Int)) then
 (bif decide (0 ≤ i5) then
 (bif decide (i5 < (↑(List.length a.1) : Int)) then
 (bif decide (0 ≤ i5) then
 (bif decide (i5 < (↑(List.length b.1) : Int)) then
 (bif !((List.getD a.1 (Int.toNat i5) dFoe).1 == (List.getD b.1 (Int.toNat i5) dFoe).1 && ((List.getD a.1 (Int.toNat i5) dFoe).2 == (List.getD b.1 (Int.toNat i5) dFoe).2 && true)) then
 (some false)
 else
 (next (IntKind.i64.wrap (i5 + 1)))) else none) else none) else none) else none)
 else
 (I1 a b N 0)
def f_2u_0 (N : Nat) (a : Book) (b : Book) : Nat → Int → Option Bool := lp (fun _ => none) fun next => f_2u_0r N (f_2u_2 N) a b next
def f_2ub (N : Nat) (I2 : Book → Book → Nat → Int → Option Bool) (a : Book) (b : Book) : Option Bool :=
 bif (↑(List.length a.1) : Int) != (↑(List.length b.1) : Int) then
 (some false)
 else
 (bif (↑(List.length a.2.1) : Int) != (↑(List.length b.2.1) : Int) then
 (some false)
 else
 (ob (F.f_2c N a.2.2.1 b.2.2.1) false fun r =>
 bif !r then
 (some false)
 else
 (bif (↑(List.length a.2.2.2.1) : Int) != (↑(List.length b.2.2.2.1) : Int) then
 (some false)
 else
 (bif a.2.2.2.2 != b.2.2.2.2 then
 (some false)
 else
 (I2 a b N 0)))))
def f_2u (N : Nat) (a : Book) (b : Book) : Option Bool := f_2ub N (f_2u_0 N) a b
def f_2t_0r (N : Nat) (k10 : Int) (c12 : Int) (d9c0 : List Foe) (d9c1 : List Spot) (d9c2 : List Txt) (d9c3 : List Part) (d9c4 : Int) (x11c4 : Int) (x11c0a : List Foe) (x11c1a : List Spot) (x11c2a : List Txt) (x11c3a : List Part) (next : Int → Option Bool) : Int → Option Bool := fun i15 =>
 bif decide (i15 < (↑x11c2a.length : Int)) then
 (bif c12 == 0 then
 (bif decide (0 ≤ i15) then
 (bif decide (i15 < (↑x11c2a.length : Int)) then
 (ob (F.f_1l N (x11c0a, x11c1a, x11c2a, x11c3a, x11c4) (x11c2a.getD (Int.toNat i15) [])) (Int.ofNat 0) fun r_12 =>
 bif r_12 == k10 then
 (some false)
 else
 (bif decide (c12 > 1) then
 (ob (F.f_2u N (x11c0a, x11c1a, x11c2a, x11c3a, x11c4) (d9c0, d9c1, d9c2, d9c3, d9c4)) false fun r_13 =>
 bif !r_13 then
 (some false)
 else
 (next (IntKind.i64.wrap (i15 + 1))))
 else
 (next (IntKind.i64.wrap (i15 + 1))))) else none) else none)
 else
 (bif decide (c12 > 1) then
 (ob (F.f_2u N (x11c0a, x11c1a, x11c2a, x11c3a, x11c4) (d9c0, d9c1, d9c2, d9c3, d9c4)) false fun r_14 =>
 bif !r_14 then
 (some false)
 else
 (next (IntKind.i64.wrap (i15 + 1))))
 else
 (next (IntKind.i64.wrap (i15 + 1)))))
 else
 (some true)
def f_2t_0 (N : Nat) (k10 : Int) (c12 : Int) (d9c0 : List Foe) (d9c1 : List Spot) (d9c2 : List Txt) (d9c3 : List Part) (d9c4 : Int) (x11c4 : Int) (x11c0a : List Foe) (x11c1a : List Spot) (x11c2a : List Txt) (x11c3a : List Part) : Nat → Int → Option Bool := lp (fun _ => none) fun next => f_2t_0r N k10 c12 d9c0 d9c1 d9c2 d9c3 d9c4 x11c4 x11c0a x11c1a x11c2a x11c3a next
def f_2tb (N : Nat) (I0 : Int → Int → (List Foe) → (List Spot) → (List Txt) → (List Part) → Int → Int → (List Foe) → (List Spot) → (List Txt) → (List Part) → Nat → Int → Option Bool) (code : List Int) (more : List Int) : Option Bool :=
 bif decide ((↑code.length : Int) > 1048576) then
 (some true)
 else
 (bif decide ((↑more.length : Int) > 1048576) then
 (some true)
 else
 (ob (F.f_w N code) (([], [], [], [], Int.ofNat 0), []) fun r =>
 ob (F.f_1l N r.1 r.2) (Int.ofNat 0) fun r_1 =>
 ob (F.f_17 N r.1 r.2) [] fun r_2 =>
 ob (F.f_1p N r.1 r.2) (Int.ofNat 0) fun r_3 =>
 bif r_1 != r_3 then
 (some false)
 else
 (ob (F.f_1d N r.1 r.2) [] fun r_4 =>
 ob (F.f_2v N r_2 r_4) false fun r_5 =>
 bif !r_5 then
 (some false)
 else
 (bif decide (r_1 > 0) then
 (bif decide ((↑(List.length r_2) : Int) > 0) then
 (some false)
 else
 (ob (F.f_2w N r.1 r_1) dWant fun r_6 =>
 ob (F.f_36 N r_6.2.2.2.2.1 r.2) false fun r_7 =>
 bif !r_7 then
 (some false)
 else
 (ob (F.f_s N more) (([], [], [], [], Int.ofNat 0), Int.ofNat 0) fun r_8 =>
 ob (F.f_18 N r_8.1 r_8.2) (([], [], [], [], Int.ofNat 0), Int.ofNat 0) fun r_9 =>
 ob (F.f_1e N r_8.1 r_8.2) (([], [], [], [], Int.ofNat 0), Int.ofNat 0) fun r_10 =>
 bif r_9.2 != r_10.2 then
 (some false)
 else
 (ob (F.f_2u N r_9.1 r_10.1) false fun r_11 =>
 bif !r_11 then
 (some false)
 else
 (I0 r_8.2 r_9.2 r_8.1.1 r_8.1.2.1 r_8.1.2.2.1 r_8.1.2.2.2.1 r_8.1.2.2.2.2 r_9.1.2.2.2.2 r_9.1.1 r_9.1.2.1 r_9.1.2.2.1 r_9.1.2.2.2.1 N 0)))))
 else
 (ob (F.f_s N more) (([], [], [], [], Int.ofNat 0), Int.ofNat 0) fun r_15 =>
 ob (F.f_18 N r_15.1 r_15.2) (([], [], [], [], Int.ofNat 0), Int.ofNat 0) fun r_16 =>
 ob (F.f_1e N r_15.1 r_15.2) (([], [], [], [], Int.ofNat 0), Int.ofNat 0) fun r_17 =>
 bif r_16.2 != r_17.2 then
 (some false)
 else
 (ob (F.f_2u N r_16.1 r_17.1) false fun r_18 =>
 bif !r_18 then
 (some false)
 else
 (I0 r_15.2 r_16.2 r_15.1.1 r_15.1.2.1 r_15.1.2.2.1 r_15.1.2.2.2.1 r_15.1.2.2.2.2 r_16.1.2.2.2.2 r_16.1.1 r_16.1.2.1 r_16.1.2.2.1 r_16.1.2.2.2.1 N 0)))))))
def f_2t (N : Nat) (code : List Int) (more : List Int) : Option Bool := f_2tb N (f_2t_0 N) code more
end
end Go.MC.F


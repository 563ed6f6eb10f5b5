/- Part 3 of the texts of the claim FnOver: an interpreter of the translated code over data, proved sound; the contracts of the functions; the same in plain words. -/
import Derived.Test.YtaihjhaabnfenaamFnOver2
set_option linter.unusedVariables false
namespace Go.MC.F
noncomputable section
abbrev dR : Int × Rdr := (Int.ofNat 0, [], Int.ofNat 0)
abbrev dB : Book := ([], [], [], [], Int.ofNat 0)
open IntKind
def f_38 (N : Nat) (r : Rdr) (n : Int) : Option (Int × Rdr) :=
 bif decide (n < 1) then
 (some (0, r.1, i64.wrap (r.2 + 1)))
 else
 (bif (↑(r.1.length) : Int) == 0 then
 (some (0, r.1, i64.wrap (r.2 + 1)))
 else
 (bif decide (i64.wrap (i64.wrap (r.2 + 1) - 1) < (↑(r.1.length) : Int)) then
 (bif decide (0 ≤ i64.wrap (i64.wrap (r.2 + 1) - 1)) then
 (bif decide (i64.wrap (i64.wrap (r.2 + 1) - 1) < (↑(r.1.length) : Int)) then
 (bif !decide (n = 0) then
 (some ((i64.wrap (r.1.getD (i64.wrap (i64.wrap (r.2 + 1) - 1)).toNat (Int.ofNat 0))).tmod n, r.1, i64.wrap (r.2 + 1))) else none) else none) else none)
 else
 (bif !decide ((↑(r.1.length) : Int) = 0) then
 (bif decide (0 ≤ (i64.wrap (i64.wrap (r.2 + 1) - 1)).tmod (↑(r.1.length) : Int)) then
 (bif decide ((i64.wrap (i64.wrap (r.2 + 1) - 1)).tmod (↑(r.1.length) : Int) < (↑(r.1.length) : Int)) then
 (bif !decide ((↑(r.1.length) : Int) = 0) then
 (bif decide (0 ≤ (i64.wrap (i64.wrap (i64.wrap (i64.wrap (r.2 + 1) - 1) * 7) + 3)).tmod (↑(r.1.length) : Int)) then
 (bif decide ((i64.wrap (i64.wrap (i64.wrap (i64.wrap (r.2 + 1) - 1) * 7) + 3)).tmod (↑(r.1.length) : Int) < (↑(r.1.length) : Int)) then
 (bif !decide ((↑(r.1.length) : Int) = 0) then
 (bif !decide (n = 0) then
 (some ((i64.wrap (↑(BitVec.ofInt IntKind.i64.bits (i64.wrap (i64.wrap (i64.wrap (i64.wrap (i64.wrap (r.1.getD ((i64.wrap (i64.wrap (r.2 + 1) - 1)).tmod (↑(r.1.length) : Int)).toNat (Int.ofNat 0)) * 131) + i64.wrap (i64.wrap (r.1.getD ((i64.wrap (i64.wrap (i64.wrap (i64.wrap (r.2 + 1) - 1) * 7) + 3)).tmod (↑(r.1.length) : Int)).toNat (Int.ofNat 0)) * 1117)) + i64.wrap (i64.wrap (i64.wrap (r.2 + 1) - 1) * 29)) + i64.wrap (i64.wrap ((i64.wrap (i64.wrap (r.2 + 1) - 1)).tdiv (↑(r.1.length) : Int)) * 53))) ^^^ BitVec.ofInt IntKind.i64.bits (i64.wrap ((i64.wrap (i64.wrap (i64.wrap (i64.wrap (i64.wrap (r.1.getD ((i64.wrap (i64.wrap (r.2 + 1) - 1)).tmod (↑(r.1.length) : Int)).toNat (Int.ofNat 0)) * 131) + i64.wrap (i64.wrap (r.1.getD ((i64.wrap (i64.wrap (i64.wrap (i64.wrap (r.2 + 1) - 1) * 7) + 3)).tmod (↑(r.1.length) : Int)).toNat (Int.ofNat 0)) * 1117)) + i64.wrap (i64.wrap (i64.wrap (r.2 + 1) - 1) * 29)) + i64.wrap (i64.wrap ((i64.wrap (i64.wrap (r.2 + 1) - 1)).tdiv (↑(r.1.length) : Int)) * 53))).tdiv 64))).toNat : Int)).tmod n, r.1, i64.wrap (r.2 + 1))) else none) else none) else none) else none) else none) else none) else none) else none)))
def f_56 (N : Nat) (r : Rdr) (list : List Txt) : Option (Txt × Rdr) :=
 ob (F.f_38 N r (↑list.length : Int)) dR fun r_1 =>
 bif decide (0 ≤ r_1.1) then
 (bif decide (r_1.1 < (↑list.length : Int)) then
 (some (list.getD r_1.1.toNat [], r_1.2)) else none) else none
def f_76_2r (N : Nat) (t2c4 : Int) (b3c0 : List Foe) (b3c4 : Int) (b3c1a : List Spot) (valves7a : List Txt) (next : Int → (List Int) → Int → (List Txt) → Option (Book × Rdr)) : Int → (List Int) → Int → (List Txt) → Option (Book × Rdr) := fun i8 rpc0_1 rpc1_1 b3c2a =>
 bif decide (i8 < (↑valves7a.length : Int)) then
 (ob (F.f_38 N (rpc0_1, rpc1_1) 8) dR fun r_7 =>
 bif decide (r_7.1 > 0) then
 (bif decide (0 ≤ i8) then
 (bif decide (i8 < (↑valves7a.length : Int)) then
 (bif decide ((b3c2a.length + 1) * 16 ≤ lim) then
 (next (i64.wrap (i8 + 1)) r_7.2.1 r_7.2.2 (b3c2a ++ [valves7a.getD i8.toNat []])) else none) else none) else none)
 else
 (next (i64.wrap (i8 + 1)) r_7.2.1 r_7.2.2 b3c2a))
 else
 (some ((b3c0, b3c1a, b3c2a, [], b3c4), rpc0_1, rpc1_1))
def f_76_2 (N : Nat) (t2c4 : Int) (b3c0 : List Foe) (b3c4 : Int) (b3c1a : List Spot) (valves7a : List Txt) : Nat → Int → (List Int) → Int → (List Txt) → Option (Book × Rdr) := lp (fun _ _ _ _ => none) fun next => f_76_2r N t2c4 b3c0 b3c4 b3c1a valves7a next
def f_76_0r (N : Nat) (I0 : Int → (List Foe) → Int → (List Spot) → (List Txt) → Nat → Int → (List Int) → Int → (List Txt) → Option (Book × Rdr)) (t2c4 : Int) (b3c0 : List Foe) (b3c4 : Int) (names4a : List Txt) (next : Int → (List Int) → Int → (List Spot) → Option (Book × Rdr)) : Int → (List Int) → Int → (List Spot) → Option (Book × Rdr) := fun i5 rpc0 rpc1 b3c1a =>
 bif decide (i5 < (↑names4a.length : Int)) then
 (ob (F.f_38 N (rpc0, rpc1) 8) dR fun r_2 =>
 bif r_2.1 == 0 then
 (next (i64.wrap (i5 + 1)) r_2.2.1 r_2.2.2 b3c1a)
 else
 (bif decide (0 ≤ i5) then
 (bif decide (i5 < (↑names4a.length : Int)) then
 (bif decide (i5 > 1) then
 (ob (F.f_38 N r_2.2 40) dR fun r_3 =>
 ob (F.f_38 N r_3.2 (i64.wrap (i64.wrap (10 + r_3.1) + 1))) dR fun r_4 =>
 ob (F.f_38 N r_4.2 3) dR fun r_5 =>
 bif r_5.1 == 0 then
 (bif decide ((b3c1a.length + 1) * 64 ≤ lim) then
 (next (i64.wrap (i5 + 1)) r_5.2.1 r_5.2.2 (b3c1a ++ [(names4a.getD i5.toNat [], i64.wrap (10 + r_3.1), 0, 0, [])])) else none)
 else
 (bif decide (r_4.1 > 0) then
 (ob (F.f_56 N r_5.2 [[97, 108, 101], [109, 97, 108, 116], [119, 97, 116, 101, 114]]) ([], [], Int.ofNat 0) fun r_6 =>
 bif decide ((b3c1a.length + 1) * 64 ≤ lim) then
 (next (i64.wrap (i5 + 1)) r_6.2.1 r_6.2.2 (b3c1a ++ [(names4a.getD i5.toNat [], i64.wrap (10 + r_3.1), r_4.1, r_4.1, [r_6.1])])) else none)
 else
 (bif decide ((b3c1a.length + 1) * 64 ≤ lim) then
 (next (i64.wrap (i5 + 1)) r_5.2.1 r_5.2.2 (b3c1a ++ [(names4a.getD i5.toNat [], i64.wrap (10 + r_3.1), r_4.1, r_4.1, [])])) else none)))
 else
 (bif decide ((b3c1a.length + 1) * 64 ≤ lim) then
 (next (i64.wrap (i5 + 1)) r_2.2.1 r_2.2.2 (b3c1a ++ [(names4a.getD i5.toNat [], 0, 0, 0, [])])) else none)) else none) else none))
 else
 (I0 t2c4 b3c0 b3c4 b3c1a ([[97], [98], [99], [100], [101], [102]]) N 0 rpc0 rpc1 [])
def f_76_0 (N : Nat) (t2c4 : Int) (b3c0 : List Foe) (b3c4 : Int) (names4a : List Txt) : Nat → Int → (List Int) → Int → (List Spot) → Option (Book × Rdr) := lp (fun _ _ _ _ => none) fun next => f_76_0r N (f_76_2 N) t2c4 b3c0 b3c4 names4a next
def f_76b (N : Nat) (I1 : Int → (List Foe) → Int → (List Txt) → Nat → Int → (List Int) → Int → (List Spot) → Option (Book × Rdr)) (r : Rdr) : Option (Book × Rdr) :=
 ob (F.f_38 N r 3) dR fun r_1 =>
 bif r_1.1 == 0 then
 (I1 0 (List.drop (Int.toNat 1) (List.take (↑[([97, 108, 101], [108, 121, 101]), ([108, 121, 101], [109, 97, 108, 116])].length : Int).toNat [([97, 108, 101], [108, 121, 101]), ([108, 121, 101], [109, 97, 108, 116])])) 0 ([[106, 49], [106, 50], [107, 101, 103], [116, 117, 110], [118, 97, 116]]) N 0 r_1.2.1 r_1.2.2 [])
 else
 (I1 0 ([([97, 108, 101], [108, 121, 101]), ([108, 121, 101], [109, 97, 108, 116])]) 0 ([[106, 49], [106, 50], [107, 101, 103], [116, 117, 110], [118, 97, 116]]) N 0 r_1.2.1 r_1.2.2 [])
def f_76 (N : Nat) (r : Rdr) : Option (Book × Rdr) := f_76b N (f_76_0 N) r
def f_96G (g_f_38 : Rdr → (Int) → Option ((Int) × Rdr)) (r : Rdr) (b : Book) : Option (Int × Rdr) :=
 bif decide ((↑(b.2.2.2.1.length) : Int) > 0) then
 (ob (g_f_38 r 6) dR fun r_1 =>
 bif decide (r_1.1 > 0) then
 (ob (g_f_38 r_1.2 (↑(b.2.2.2.1.length) : Int)) dR fun r_2 =>
 bif decide (0 ≤ r_2.1) then
 (bif decide (r_2.1 < (↑(b.2.2.2.1.length) : Int)) then
 (some ((b.2.2.2.1.getD r_2.1.toNat dPart).1.1, r_2.2)) else none) else none)
 else
 (ob (g_f_38 r_1.2 4) dR fun r_3 =>
 bif decide (0 ≤ r_3.1) then
 (bif decide (r_3.1 < (↑[0, -1, b.2.2.2.2, i64.wrap (b.2.2.2.2 + 1)].length : Int)) then
 (some ([0, -1, b.2.2.2.2, i64.wrap (b.2.2.2.2 + 1)].getD r_3.1.toNat (Int.ofNat 0), r_3.2)) else none) else none))
 else
 (ob (g_f_38 r 4) dR fun r_4 =>
 bif decide (0 ≤ r_4.1) then
 (bif decide (r_4.1 < (↑[0, -1, b.2.2.2.2, i64.wrap (b.2.2.2.2 + 1)].length : Int)) then
 (some ([0, -1, b.2.2.2.2, i64.wrap (b.2.2.2.2 + 1)].getD r_4.1.toNat (Int.ofNat 0), r_4.2)) else none) else none)
def f_96 (N : Nat) (r : Rdr) (b : Book) : Option (Int × Rdr) := f_96G (F.f_38 N) r b
def f_73_0r (N : Nat) (b : Book) (number : Int) (next : Int → Option Int) : Int → Option Int := fun i5 =>
 bif decide (i5 < (↑(b.2.2.2.1.length) : Int)) then
 (bif decide (0 ≤ i5) then
 (bif decide (i5 < (↑(b.2.2.2.1.length) : Int)) then
 (bif (b.2.2.2.1.getD i5.toNat dPart).1.1 == number then
 (some i5)
 else
 (next (i64.wrap (i5 + 1)))) else none) else none)
 else
 (some (-1))
def f_73_0 (N : Nat) (b : Book) (number : Int) : Nat → Int → Option Int := lp (fun _ => none) fun next => f_73_0r N b number next
def f_73b (N : Nat) (I0 : Book → Int → Nat → Int → Option Int) (b : Book) (number : Int) : Option Int :=
 I0 b number N 0
def f_73 (N : Nat) (b : Book) (number : Int) : Option Int := f_73b N (f_73_0 N) b number
def f_63_0r (N : Nat) (r : Rdr) (b : Book) (r_1 : Int) (next : Int → Int → Option (Int × Rdr)) : Int → Int → Option (Int × Rdr) := fun most8 i9 =>
 bif decide (r_1 ≥ 0) then
 (bif decide (0 ≤ r_1) then
 (bif decide (r_1 < (↑(b.2.2.2.1.length) : Int)) then
 (bif decide (i9 < (↑(List.length (b.2.2.2.1.getD r_1.toNat dPart).1.2.2.2.1) : Int)) then
 (bif decide (0 ≤ r_1) then
 (bif decide (r_1 < (↑(b.2.2.2.1.length) : Int)) then
 (bif decide (0 ≤ i9) then
 (bif decide (i9 < (↑(List.length (b.2.2.2.1.getD r_1.toNat dPart).1.2.2.2.1) : Int)) then
 (bif (List.getD (b.2.2.2.1.getD r_1.toNat dPart).1.2.2.2.1 i9.toNat dUse).2.1 != 3 then
 (bif decide (most8 > (List.getD (b.2.2.2.1.getD r_1.toNat dPart).1.2.2.2.1 i9.toNat dUse).2.2) then
 (next ((List.getD (b.2.2.2.1.getD r_1.toNat dPart).1.2.2.2.1 i9.toNat dUse).2.2) (i64.wrap (i9 + 1)))
 else
 (bif i9 == 0 then
 (next ((List.getD (b.2.2.2.1.getD r_1.toNat dPart).1.2.2.2.1 i9.toNat dUse).2.2) (i64.wrap (i9 + 1)))
 else
 (next most8 (i64.wrap (i9 + 1)))))
 else
 (next most8 (i64.wrap (i9 + 1)))) else none) else none) else none) else none)
 else
 (ob (F.f_38 N r (i64.wrap (most8 + 2))) dR fun r_2 =>
 ob (F.f_38 N r_2.2 2) dR fun r_3 =>
 ob (F.f_38 N r_3.2 2) dR fun r_4 =>
 ob (F.f_38 N r_4.2 2) dR fun r_5 =>
 some (i64.wrap (r_2.1 - i64.wrap (i64.wrap (r_3.1 * r_4.1) * r_5.1)), r_5.2))) else none) else none)
 else
 (ob (F.f_38 N r (i64.wrap (most8 + 2))) dR fun r_6 =>
 ob (F.f_38 N r_6.2 2) dR fun r_7 =>
 ob (F.f_38 N r_7.2 2) dR fun r_8 =>
 ob (F.f_38 N r_8.2 2) dR fun r_9 =>
 some (i64.wrap (r_6.1 - i64.wrap (i64.wrap (r_7.1 * r_8.1) * r_9.1)), r_9.2))
def f_63_0 (N : Nat) (r : Rdr) (b : Book) (r_1 : Int) : Nat → Int → Int → Option (Int × Rdr) := lp (fun _ _ => none) fun next => f_63_0r N r b r_1 next
def f_63b (N : Nat) (I0 : Rdr → Book → Int → Nat → Int → Int → Option (Int × Rdr)) (r : Rdr) (b : Book) (number : Int) : Option (Int × Rdr) :=
 ob (F.f_73 N b number) (Int.ofNat 0) fun r_1 =>
 I0 r b r_1 N 3 0
def f_63 (N : Nat) (r : Rdr) (b : Book) (number : Int) : Option (Int × Rdr) := f_63b N (f_63_0 N) r b number
def f_51_0r (N : Nat) (list : List Txt) (name : Txt) (next : Int → Option (List Txt)) : Int → Option (List Txt) := fun k5 =>
 bif decide (k5 < (↑list.length : Int)) then
 (bif decide (0 ≤ k5) then
 (bif decide (k5 < (↑list.length : Int)) then
 (bif Op.bytesLess (list.getD k5.toNat []) name then
 (next (i64.wrap (k5 + 1)))
 else
 (bif decide (k5 < (↑list.length : Int)) then
 (bif decide (0 ≤ k5) then
 (bif decide (k5 < (↑list.length : Int)) then
 (bif list.getD k5.toNat [] == name then
 (some list)
 else
 (bif decide (0 ≤ k5) then
 (bif decide (k5 ≤ (↑(list.length) : Int)) then
 (bif decide ((0 + (List.drop (Int.toNat 0) (List.take k5.toNat list)).length) * 16 ≤ lim) then
 (bif decide ((([] ++ List.drop (Int.toNat 0) (List.take k5.toNat list)).length + [name].length) * 16 ≤ lim) then
 (bif decide (0 ≤ k5) then
 (bif decide (k5 ≤ (↑(list.length) : Int)) then
 (bif decide ((↑(list.length) : Int) ≤ (↑(list.length) : Int)) then
 (bif decide ((([] ++ List.drop (Int.toNat 0) (List.take k5.toNat list) ++ [name]).length + (List.drop k5.toNat (List.take (↑list.length : Int).toNat list)).length) * 16 ≤ lim) then
 (some ([] ++ List.drop (Int.toNat 0) (List.take k5.toNat list) ++ [name] ++ List.drop k5.toNat (List.take (↑list.length : Int).toNat list))) else none) else none) else none) else none) else none) else none) else none) else none)) else none) else none)
 else
 (bif decide (0 ≤ k5) then
 (bif decide (k5 ≤ (↑(list.length) : Int)) then
 (bif decide ((0 + (List.drop (Int.toNat 0) (List.take k5.toNat list)).length) * 16 ≤ lim) then
 (bif decide ((([] ++ List.drop (Int.toNat 0) (List.take k5.toNat list)).length + [name].length) * 16 ≤ lim) then
 (bif decide (0 ≤ k5) then
 (bif decide (k5 ≤ (↑(list.length) : Int)) then
 (bif decide ((↑(list.length) : Int) ≤ (↑(list.length) : Int)) then
 (bif decide ((([] ++ List.drop (Int.toNat 0) (List.take k5.toNat list) ++ [name]).length + (List.drop k5.toNat (List.take (↑list.length : Int).toNat list)).length) * 16 ≤ lim) then
 (some ([] ++ List.drop (Int.toNat 0) (List.take k5.toNat list) ++ [name] ++ List.drop k5.toNat (List.take (↑list.length : Int).toNat list))) else none) else none) else none) else none) else none) else none) else none) else none))) else none) else none)
 else
 (bif decide (k5 < (↑list.length : Int)) then
 (bif decide (0 ≤ k5) then
 (bif decide (k5 < (↑list.length : Int)) then
 (bif list.getD k5.toNat [] == name then
 (some list)
 else
 (bif decide (0 ≤ k5) then
 (bif decide (k5 ≤ (↑(list.length) : Int)) then
 (bif decide ((0 + (List.drop (Int.toNat 0) (List.take k5.toNat list)).length) * 16 ≤ lim) then
 (bif decide ((([] ++ List.drop (Int.toNat 0) (List.take k5.toNat list)).length + [name].length) * 16 ≤ lim) then
 (bif decide (0 ≤ k5) then
 (bif decide (k5 ≤ (↑(list.length) : Int)) then
 (bif decide ((↑(list.length) : Int) ≤ (↑(list.length) : Int)) then
 (bif decide ((([] ++ List.drop (Int.toNat 0) (List.take k5.toNat list) ++ [name]).length + (List.drop k5.toNat (List.take (↑list.length : Int).toNat list)).length) * 16 ≤ lim) then
 (some ([] ++ List.drop (Int.toNat 0) (List.take k5.toNat list) ++ [name] ++ List.drop k5.toNat (List.take (↑list.length : Int).toNat list))) else none) else none) else none) else none) else none) else none) else none) else none)) else none) else none)
 else
 (bif decide (0 ≤ k5) then
 (bif decide (k5 ≤ (↑(list.length) : Int)) then
 (bif decide ((0 + (List.drop (Int.toNat 0) (List.take k5.toNat list)).length) * 16 ≤ lim) then
 (bif decide ((([] ++ List.drop (Int.toNat 0) (List.take k5.toNat list)).length + [name].length) * 16 ≤ lim) then
 (bif decide (0 ≤ k5) then
 (bif decide (k5 ≤ (↑(list.length) : Int)) then
 (bif decide ((↑(list.length) : Int) ≤ (↑(list.length) : Int)) then
 (bif decide ((([] ++ List.drop (Int.toNat 0) (List.take k5.toNat list) ++ [name]).length + (List.drop k5.toNat (List.take (↑list.length : Int).toNat list)).length) * 16 ≤ lim) then
 (some ([] ++ List.drop (Int.toNat 0) (List.take k5.toNat list) ++ [name] ++ List.drop k5.toNat (List.take (↑list.length : Int).toNat list))) else none) else none) else none) else none) else none) else none) else none) else none))
def f_51_0 (N : Nat) (list : List Txt) (name : Txt) : Nat → Int → Option (List Txt) := lp (fun _ => none) fun next => f_51_0r N list name next
def f_51b (N : Nat) (I0 : (List Txt) → Txt → Nat → Int → Option (List Txt)) (list : List Txt) (name : Txt) : Option (List Txt) :=
 I0 list name N 0
def f_51 (N : Nat) (list : List Txt) (name : Txt) : Option (List Txt) := f_51b N (f_51_0 N) list name
def f_80_0r (N : Nat) (list : List Txt) (most : Int) (next : Int → (List Int) → Int → (List Txt) → Option (List Txt × Rdr)) : Int → (List Int) → Int → (List Txt) → Option (List Txt × Rdr) := fun i8 rpc0 rpc1 out7a =>
 bif decide (i8 < (↑list.length : Int)) then
 (bif decide ((↑out7a.length : Int) < most) then
 (ob (F.f_38 N (rpc0, rpc1) 4) dR fun r_2 =>
 bif r_2.1 == 0 then
 (bif decide (0 ≤ i8) then
 (bif decide (i8 < (↑list.length : Int)) then
 (bif decide ((out7a.length + 1) * 16 ≤ lim) then
 (next (i64.wrap (i8 + 1)) r_2.2.1 r_2.2.2 (out7a ++ [list.getD i8.toNat []])) else none) else none) else none)
 else
 (next (i64.wrap (i8 + 1)) r_2.2.1 r_2.2.2 out7a))
 else
 (some (out7a, rpc0, rpc1)))
 else
 (some (out7a, rpc0, rpc1))
def f_80_0 (N : Nat) (list : List Txt) (most : Int) : Nat → Int → (List Int) → Int → (List Txt) → Option (List Txt × Rdr) := lp (fun _ _ _ _ => none) fun next => f_80_0r N list most next
def f_80b (N : Nat) (I0 : (List Txt) → Int → Nat → Int → (List Int) → Int → (List Txt) → Option (List Txt × Rdr)) (r : Rdr) (list : List Txt) (most : Int) : Option (List Txt × Rdr) :=
 I0 list most N 0 r.1 r.2 []
def f_80 (N : Nat) (r : Rdr) (list : List Txt) (most : Int) : Option (List Txt × Rdr) := f_80b N (f_80_0 N) r list most
def f_90_0r (N : Nat) (list : List Txt) (name : Txt) (next : Int → Option Bool) : Int → Option Bool := fun i5 =>
 bif decide (i5 < (↑list.length : Int)) then
 (bif decide (0 ≤ i5) then
 (bif decide (i5 < (↑list.length : Int)) then
 (bif list.getD i5.toNat [] == name then
 (some true)
 else
 (next (i64.wrap (i5 + 1)))) else none) else none)
 else
 (some false)
def f_90_0 (N : Nat) (list : List Txt) (name : Txt) : Nat → Int → Option Bool := lp (fun _ => none) fun next => f_90_0r N list name next
def f_90b (N : Nat) (I0 : (List Txt) → Txt → Nat → Int → Option Bool) (list : List Txt) (name : Txt) : Option Bool :=
 I0 list name N 0
def f_90 (N : Nat) (list : List Txt) (name : Txt) : Option Bool := f_90b N (f_90_0 N) list name
def f_79_2r (N : Nat) (nx0 : Int → (List Int) → Int → (List Txt) → Option (Want × Rdr)) (b : Book) (number : Int) (t6c0 : Int) (t6c1 : Int) (w7c1 : Int) (i8 : Int) (r_3 : Int × Rdr) (next : Int → (List Txt) → Option (Want × Rdr)) : Int → (List Txt) → Option (Want × Rdr) := fun k9 w7c2_1 =>
 bif decide (0 ≤ i8) then
 (bif decide (i8 < (↑(b.2.1.length) : Int)) then
 (bif decide (k9 < (↑(List.length (b.2.1.getD i8.toNat dSpot).2.2.2.2) : Int)) then
 (bif decide (0 ≤ i8) then
 (bif decide (i8 < (↑(b.2.1.length) : Int)) then
 (bif decide (0 ≤ k9) then
 (bif decide (k9 < (↑(List.length (b.2.1.getD i8.toNat dSpot).2.2.2.2) : Int)) then
 (ob (F.f_51 N w7c2_1 (List.getD (b.2.1.getD i8.toNat dSpot).2.2.2.2 k9.toNat [])) [] fun r_4 =>
 next (i64.wrap (k9 + 1)) r_4) else none) else none) else none) else none)
 else
 (nx0 (i64.wrap (i8 + 1)) r_3.2.1 r_3.2.2 w7c2_1)) else none) else none
def f_79_2 (N : Nat) (nx0 : Int → (List Int) → Int → (List Txt) → Option (Want × Rdr)) (b : Book) (number : Int) (t6c0 : Int) (t6c1 : Int) (w7c1 : Int) (i8 : Int) (r_3 : Int × Rdr) : Nat → Int → (List Txt) → Option (Want × Rdr) := lp (fun _ _ => none) fun next => f_79_2r N nx0 b number t6c0 t6c1 w7c1 i8 r_3 next
def f_79_6r (N : Nat) (nx4 : Int → (List Int) → Int → (List Txt) → (List Use) → Option (Want × Rdr)) (b : Book) (number : Int) (t6c0_2 : Int) (t6c1_2 : Int) (w7c1_2 : Int) (i10 : Int) (w7c3a : List Use) (u11c0 : Txt) (u11c1 : Int) (u11c2 : Int) (next : Int → (List Int) → Int → (List Txt) → Option (Want × Rdr)) : Int → (List Int) → Int → (List Txt) → Option (Want × Rdr) := fun k12 rpc0_3 rpc1_3 w7c2_3 =>
 bif decide (0 ≤ i10) then
 (bif decide (i10 < (↑(b.2.1.length) : Int)) then
 (bif decide (k12 < (↑(List.length (b.2.1.getD i10.toNat dSpot).2.2.2.2) : Int)) then
 (bif w7c1_2 == 1 then
 (bif u11c1 != 2 then
 (ob (F.f_38 N (rpc0_3, rpc1_3) 4) dR fun r_8 =>
 bif decide (r_8.1 > 0) then
 (bif decide (0 ≤ i10) then
 (bif decide (i10 < (↑(b.2.1.length) : Int)) then
 (bif decide (0 ≤ k12) then
 (bif decide (k12 < (↑(List.length (b.2.1.getD i10.toNat dSpot).2.2.2.2) : Int)) then
 (ob (F.f_51 N w7c2_3 (List.getD (b.2.1.getD i10.toNat dSpot).2.2.2.2 k12.toNat [])) [] fun r_9 =>
 next (i64.wrap (k12 + 1)) r_8.2.1 r_8.2.2 r_9) else none) else none) else none) else none)
 else
 (bif decide ((w7c3a.length + 1) * 32 ≤ lim) then
 (nx4 (i64.wrap (i10 + 1)) r_8.2.1 r_8.2.2 w7c2_3 (w7c3a ++ [(u11c0, u11c1, u11c2)])) else none))
 else
 (bif decide ((w7c3a.length + 1) * 32 ≤ lim) then
 (nx4 (i64.wrap (i10 + 1)) rpc0_3 rpc1_3 w7c2_3 (w7c3a ++ [(u11c0, u11c1, u11c2)])) else none))
 else
 (bif decide ((w7c3a.length + 1) * 32 ≤ lim) then
 (nx4 (i64.wrap (i10 + 1)) rpc0_3 rpc1_3 w7c2_3 (w7c3a ++ [(u11c0, u11c1, u11c2)])) else none))
 else
 (bif decide ((w7c3a.length + 1) * 32 ≤ lim) then
 (nx4 (i64.wrap (i10 + 1)) rpc0_3 rpc1_3 w7c2_3 (w7c3a ++ [(u11c0, u11c1, u11c2)])) else none)) else none) else none
def f_79_6 (N : Nat) (nx4 : Int → (List Int) → Int → (List Txt) → (List Use) → Option (Want × Rdr)) (b : Book) (number : Int) (t6c0_2 : Int) (t6c1_2 : Int) (w7c1_2 : Int) (i10 : Int) (w7c3a : List Use) (u11c0 : Txt) (u11c1 : Int) (u11c2 : Int) : Nat → Int → (List Int) → Int → (List Txt) → Option (Want × Rdr) := lp (fun _ _ _ _ => none) fun next => f_79_6r N nx4 b number t6c0_2 t6c1_2 w7c1_2 i10 w7c3a u11c0 u11c1 u11c2 next
def f_79_8r (N : Nat) (number : Int) (t6c0_2 : Int) (t6c1_2 : Int) (w7c1_2 : Int) (w7c2_2 : List Txt) (w7c3a : List Use) (r_10 : List Txt × Rdr) (r_11 : List Txt × Rdr) (next : Int → (List Txt) → Option (Want × Rdr)) : Int → (List Txt) → Option (Want × Rdr) := fun i14 w7c4a =>
 bif decide (i14 < (↑(r_11.1.length) : Int)) then
 (bif decide (0 ≤ i14) then
 (bif decide (i14 < (↑(r_11.1.length) : Int)) then
 (ob (F.f_90 N r_10.1 (r_11.1.getD i14.toNat [])) false fun r_12 =>
 bif !r_12 then
 (bif decide (0 ≤ i14) then
 (bif decide (i14 < (↑(r_11.1.length) : Int)) then
 (bif decide ((w7c4a.length + 1) * 16 ≤ lim) then
 (next (i64.wrap (i14 + 1)) (w7c4a ++ [r_11.1.getD i14.toNat []])) else none) else none) else none)
 else
 (next (i64.wrap (i14 + 1)) w7c4a)) else none) else none)
 else
 (some ((number, w7c1_2, w7c2_2, w7c3a, w7c4a, r_10.1), r_11.2))
def f_79_8 (N : Nat) (number : Int) (t6c0_2 : Int) (t6c1_2 : Int) (w7c1_2 : Int) (w7c2_2 : List Txt) (w7c3a : List Use) (r_10 : List Txt × Rdr) (r_11 : List Txt × Rdr) : Nat → Int → (List Txt) → Option (Want × Rdr) := lp (fun _ _ => none) fun next => f_79_8r N number t6c0_2 t6c1_2 w7c1_2 w7c2_2 w7c3a r_10 r_11 next
def f_79_4r (N : Nat) (I1 : Int → (List Use) → Txt → Int → Int → Nat → Int → (List Int) → Int → (List Txt) → Option (Want × Rdr)) (I2 : Int → Int → Int → Int → (List Txt) → (List Use) → (List Txt × Rdr) → (List Txt × Rdr) → Nat → Int → (List Txt) → Option (Want × Rdr)) (b : Book) (number : Int) (t6c0_2 : Int) (t6c1_2 : Int) (w7c1_2 : Int) (next : Int → (List Int) → Int → (List Txt) → (List Use) → Option (Want × Rdr)) : Int → (List Int) → Int → (List Txt) → (List Use) → Option (Want × Rdr) := fun i10 rpc0_2 rpc1_2 w7c2_2 w7c3a =>
 bif decide (i10 < (↑(b.2.1.length) : Int)) then
 (ob (F.f_38 N (rpc0_2, rpc1_2) 3) dR fun r_5 =>
 bif decide (r_5.1 > 0) then
 (next (i64.wrap (i10 + 1)) r_5.2.1 r_5.2.2 w7c2_2 w7c3a)
 else
 (bif decide (0 ≤ i10) then
 (bif decide (i10 < (↑(b.2.1.length) : Int)) then
 (bif w7c1_2 == 1 then
 (bif decide (0 ≤ i10) then
 (bif decide (i10 < (↑(b.2.1.length) : Int)) then
 (bif decide ((b.2.1.getD i10.toNat dSpot).2.1 > 0) then
 (ob (F.f_38 N r_5.2 2) dR fun r_6 =>
 ob (F.f_38 N r_6.2 14) dR fun r_7 =>
 I1 i10 w7c3a ((b.2.1.getD i10.toNat dSpot).1) (i64.wrap (1 + r_6.1)) (i64.wrap (1 + r_7.1)) N 0 r_7.2.1 r_7.2.2 w7c2_2)
 else
 (I1 i10 w7c3a ((b.2.1.getD i10.toNat dSpot).1) 3 0 N 0 r_5.2.1 r_5.2.2 w7c2_2)) else none) else none)
 else
 (I1 i10 w7c3a ((b.2.1.getD i10.toNat dSpot).1) 3 0 N 0 r_5.2.1 r_5.2.2 w7c2_2)) else none) else none))
 else
 (ob (F.f_80 N (rpc0_2, rpc1_2) b.2.2.1 4) ([], [], Int.ofNat 0) fun r_10 =>
 bif w7c1_2 == 1 then
 (ob (F.f_80 N r_10.2 b.2.2.1 3) ([], [], Int.ofNat 0) fun r_11 =>
 I2 number t6c0_2 t6c1_2 w7c1_2 w7c2_2 w7c3a r_10 r_11 N 0 [])
 else
 (some ((number, w7c1_2, w7c2_2, w7c3a, [], r_10.1), r_10.2)))
def f_79_4 (N : Nat) (b : Book) (number : Int) (t6c0_2 : Int) (t6c1_2 : Int) (w7c1_2 : Int) : Nat → Int → (List Int) → Int → (List Txt) → (List Use) → Option (Want × Rdr) := lp (fun _ _ _ _ _ => none) fun next => f_79_4r N (f_79_6 N next b number t6c0_2 t6c1_2 w7c1_2) (f_79_8 N) b number t6c0_2 t6c1_2 w7c1_2 next
def f_79_0r (N : Nat) (I0 : Int → (Int × Rdr) → Nat → Int → (List Txt) → Option (Want × Rdr)) (I3 : Book → Int → Int → Int → Int → Nat → Int → (List Int) → Int → (List Txt) → (List Use) → Option (Want × Rdr)) (b : Book) (number : Int) (t6c0 : Int) (t6c1 : Int) (w7c1 : Int) (next : Int → (List Int) → Int → (List Txt) → Option (Want × Rdr)) : Int → (List Int) → Int → (List Txt) → Option (Want × Rdr) := fun i8 rpc0 rpc1 w7c2 =>
 bif decide (i8 < (↑(b.2.1.length) : Int)) then
 (ob (F.f_38 N (rpc0, rpc1) 4) dR fun r_3 =>
 bif r_3.1 == 0 then
 (I0 i8 r_3 N 0 w7c2)
 else
 (I3 b number t6c0 t6c1 w7c1 N 0 r_3.2.1 r_3.2.2 w7c2 []))
 else
 (I3 b number t6c0 t6c1 w7c1 N 0 rpc0 rpc1 w7c2 [])
def f_79_0 (N : Nat) (b : Book) (number : Int) (t6c0 : Int) (t6c1 : Int) (w7c1 : Int) : Nat → Int → (List Int) → Int → (List Txt) → Option (Want × Rdr) := lp (fun _ _ _ _ => none) fun next => f_79_0r N (f_79_2 N next b number t6c0 t6c1 w7c1) (f_79_4 N) b number t6c0 t6c1 w7c1 next
def f_79b (N : Nat) (I4 : Book → Int → Int → Int → Int → Nat → Int → (List Int) → Int → (List Txt) → Option (Want × Rdr)) (I3 : Book → Int → Int → Int → Int → Nat → Int → (List Int) → Int → (List Txt) → (List Use) → Option (Want × Rdr)) (r : Rdr) (b : Book) (number : Int) : Option (Want × Rdr) :=
 ob (F.f_38 N r 5) dR fun r_1 =>
 bif decide (0 ≤ r_1.1) then
 (bif decide (r_1.1 < (↑[1, 1, 1, 2, 3].length : Int)) then
 (bif [1, 1, 1, 2, 3].getD r_1.1.toNat (Int.ofNat 0) == 1 then
 (ob (F.f_56 N r_1.2 [[97, 108, 101], [109, 97, 108, 116], [119, 97, 116, 101, 114], [108, 121, 101]]) ([], [], Int.ofNat 0) fun r_2 =>
 I4 b number 0 0 ([1, 1, 1, 2, 3].getD r_1.1.toNat (Int.ofNat 0)) N 0 r_2.2.1 r_2.2.2 [r_2.1])
 else
 (I3 b number 0 0 ([1, 1, 1, 2, 3].getD r_1.1.toNat (Int.ofNat 0)) N 0 r_1.2.1 r_1.2.2 [] [])) else none) else none
def f_79 (N : Nat) (r : Rdr) (b : Book) (number : Int) : Option (Want × Rdr) := f_79b N (f_79_0 N) (f_79_4 N) r b number
def f_55 (N : Nat) (list : List Txt) : Option (List Txt) :=
 bif decide ((0 + list.length) * 16 ≤ lim) then
 (some ([] ++ list)) else none
def f_70 (N : Nat) (w : Want) : Option Want :=
 bif decide ((0 + w.2.2.2.1.length) * 32 ≤ lim) then
 (ob (F.f_55 N w.2.2.1) [] fun r =>
 ob (F.f_55 N w.2.2.2.2.1) [] fun r_1 =>
 ob (F.f_55 N w.2.2.2.2.2) [] fun r_2 =>
 some (w.1, w.2.1, r, [] ++ w.2.2.2.1, r_1, r_2)) else none
def f_93F (N : Nat) : Nat → Int → Option Txt
 | 0, n => bif decide (n < 0) then
 none
 else
 (bif decide (n < 10) then
 (some (List.map byteOf [IntKind.u8.wrap (i64.wrap (48 + n))]))
 else
 none)
 | m + 1, n => bif decide (n < 0) then
 (ob (f_93F N m (i64.wrap (0 - n))) [] fun r =>
 bif decide (1 + List.length r ≤ lim) then
 (some ([45] ++ r)) else none)
 else
 (bif decide (n < 10) then
 (some (List.map byteOf [IntKind.u8.wrap (i64.wrap (48 + n))]))
 else
 (ob (f_93F N m (i64.wrap (n.tdiv 10))) [] fun r_1 =>
 bif decide (List.length r_1 + (List.map byteOf [IntKind.u8.wrap (i64.wrap (48 + n.tmod 10))]).length ≤ lim) then
 (some (r_1 ++ List.map byteOf [IntKind.u8.wrap (i64.wrap (48 + n.tmod 10))])) else none))
def f_93 (N : Nat) (n : Int) : Option Txt := f_93F N 64 n
def f_29_1r (N : Nat) (r_1 : Want) (r_13 : Int × Rdr) (n6 : Int) (t4c0 : Int) (t4c1 : Int) (next : Int → (List Txt) → Option (Want × Rdr)) : Int → (List Txt) → Option (Want × Rdr) := fun i7 x5c5a =>
 bif decide ((↑x5c5a.length : Int) < n6) then
 (ob (F.f_93 N (i64.wrap (10 + i7))) [] fun r_15 =>
 bif decide (1 + List.length r_15 ≤ lim) then
 (bif decide ((x5c5a.length + 1) * 16 ≤ lim) then
 (next (i64.wrap (i7 + 1)) (x5c5a ++ [[122] ++ r_15])) else none) else none)
 else
 (some ((r_1.1, r_1.2.1, r_1.2.2.1, r_1.2.2.2.1, r_1.2.2.2.2.1, x5c5a), r_13.2))
def f_29_1 (N : Nat) (r_1 : Want) (r_13 : Int × Rdr) (n6 : Int) (t4c0 : Int) (t4c1 : Int) : Nat → Int → (List Txt) → Option (Want × Rdr) := lp (fun _ _ => none) fun next => f_29_1r N r_1 r_13 n6 t4c0 t4c1 next
def f_29b (N : Nat) (I0 : Want → (Int × Rdr) → Int → Int → Int → Nat → Int → (List Txt) → Option (Want × Rdr)) (r : Rdr) (w : Want) : Option (Want × Rdr) :=
 ob (F.f_70 N w) dWant fun r_1 =>
 ob (F.f_38 N r 8) dR fun r_2 =>
 bif r_2.1 == 0 then
 (ob (F.f_38 N r_2.2 4) dR fun r_3 =>
 bif decide (0 ≤ r_3.1) then
 (bif decide (r_3.1 < (↑[0, -1, 1000000, 1000001].length : Int)) then
 (some (([0, -1, 1000000, 1000001].getD r_3.1.toNat (Int.ofNat 0), r_1.2), r_3.2)) else none) else none)
 else
 (bif r_2.1 == 1 then
 (ob (F.f_38 N r_2.2 6) dR fun r_4 =>
 some ((r_1.1, i64.wrap (r_4.1 - 1), r_1.2.2), r_4.2))
 else
 (bif r_2.1 == 2 then
 (ob (F.f_38 N r_2.2 5) dR fun r_5 =>
 bif decide (0 ≤ r_5.1) then
 (bif decide (r_5.1 < (↑[[], [[65]], [[97, 108, 101], [97, 108, 101]], [[97, 108, 101]], [[97, 108, 101], [108, 121, 101]]].length : Int)) then
 (some ((r_1.1, r_1.2.1, [[], [[65]], [[97, 108, 101], [97, 108, 101]], [[97, 108, 101]], [[97, 108, 101], [108, 121, 101]]].getD r_5.1.toNat [], r_1.2.2.2), r_5.2)) else none) else none)
 else
 (bif r_2.1 == 3 then
 (ob (F.f_56 N r_2.2 [[], [107, 101, 103], [122, 122]]) ([], [], Int.ofNat 0) fun r_6 =>
 ob (F.f_38 N r_6.2 5) dR fun r_7 =>
 ob (F.f_38 N r_7.2 3) dR fun r_8 =>
 bif decide ((List.length r_1.2.2.2.1 + 1) * 32 ≤ lim) then
 (some ((r_1.1, r_1.2.1, r_1.2.2.1, r_1.2.2.2.1 ++ [(r_6.1, r_7.1, r_8.1)], r_1.2.2.2.2), r_8.2)) else none)
 else
 (bif r_2.1 == 4 then
 (bif decide ((↑(r_1.2.2.2.1.length) : Int) > 0) then
 (ob (F.f_38 N r_2.2 (↑(r_1.2.2.2.1.length) : Int)) dR fun r_9 =>
 ob (F.f_38 N r_9.2 4) dR fun r_10 =>
 bif decide (0 ≤ r_10.1) then
 (bif decide (r_10.1 < (↑[-1, 0, 1000, 1001].length : Int)) then
 (bif decide (0 ≤ r_9.1) then
 (bif decide (r_9.1 < (↑(r_1.2.2.2.1.length) : Int)) then
 (let t1577as : List Use := List.set r_1.2.2.2.1 r_9.1.toNat ((r_1.2.2.2.1.getD r_9.1.toNat dUse).1, (r_1.2.2.2.1.getD r_9.1.toNat dUse).2.1, [-1, 0, 1000, 1001].getD r_10.1.toNat (Int.ofNat 0))
 some ((r_1.1, r_1.2.1, r_1.2.2.1, t1577as, r_1.2.2.2.2), r_10.2)) else none) else none) else none) else none)
 else
 (some (r_1, r_2.2)))
 else
 (bif r_2.1 == 5 then
 (ob (F.f_56 N r_2.2 [[], [97], [122, 122]]) ([], [], Int.ofNat 0) fun r_11 =>
 bif decide ((List.length r_1.2.2.2.2.1 + 1) * 16 ≤ lim) then
 (some ((r_1.1, r_1.2.1, r_1.2.2.1, r_1.2.2.2.1, r_1.2.2.2.2.1 ++ [r_11.1], r_1.2.2.2.2.2), r_11.2)) else none)
 else
 (bif r_2.1 == 6 then
 (ob (F.f_56 N r_2.2 [[], [97], [122, 122]]) ([], [], Int.ofNat 0) fun r_12 =>
 bif decide ((List.length r_1.2.2.2.2.2 + 1) * 16 ≤ lim) then
 (some ((r_1.1, r_1.2.1, r_1.2.2.1, r_1.2.2.2.1, r_1.2.2.2.2.1, r_1.2.2.2.2.2 ++ [r_12.1]), r_12.2)) else none)
 else
 (ob (F.f_38 N r_2.2 2) dR fun r_13 =>
 I0 r_1 r_13 (i64.wrap (12 + r_13.1)) 0 0 N 0 r_1.2.2.2.2.2)))))))
def f_29 (N : Nat) (r : Rdr) (w : Want) : Option (Want × Rdr) := f_29b N (f_29_1 N) r w
def f_78 (N : Nat) (r : Rdr) (b : Book) : Option (Do × Rdr) :=
 ob (F.f_38 N r 8) dR fun r_1 =>
 bif r_1.1 == 0 then
 (ob (F.f_96 N r_1.2 b) dR fun r_2 =>
 some (((0, 0, [], [], [], []), r_2.1, 0, 0, false), r_2.2))
 else
 (bif r_1.1 == 1 then
 (ob (F.f_96 N r_1.2 b) dR fun r_3 =>
 some (((0, 0, [], [], [], []), r_3.1, 0, 0, false), r_3.2))
 else
 (bif r_1.1 == 2 then
 (ob (F.f_96 N r_1.2 b) dR fun r_4 =>
 ob (F.f_63 N r_4.2 b r_4.1) dR fun r_5 =>
 ob (F.f_38 N r_5.2 3) dR fun r_6 =>
 some (((0, 0, [], [], [], []), 0, r_4.1, r_5.1, decide (r_6.1 > 0)), r_6.2))
 else
 (bif r_1.1 == 3 then
 (ob (F.f_96 N r_1.2 b) dR fun r_7 =>
 ob (F.f_63 N r_7.2 b r_7.1) dR fun r_8 =>
 ob (F.f_38 N r_8.2 3) dR fun r_9 =>
 some (((0, 0, [], [], [], []), 0, r_7.1, r_8.1, decide (r_9.1 > 0)), r_9.2))
 else
 (ob (F.f_38 N r_1.2 2) dR fun r_10 =>
 ob (F.f_79 N r_10.2 b (i64.wrap (i64.wrap (b.2.2.2.2 + 1) + r_10.1))) (dWant, [], Int.ofNat 0) fun r_11 =>
 ob (F.f_38 N r_11.2 12) dR fun r_12 =>
 bif r_12.1 == 0 then
 (ob (F.f_38 N r_12.2 (i64.wrap (b.2.2.2.2 + 1))) dR fun r_13 =>
 some (((i64.wrap (1 + r_13.1), r_11.1.2), 0, 0, 0, false), r_13.2))
 else
 (bif r_12.1 == 1 then
 (ob (F.f_29 N r_12.2 r_11.1) (dWant, [], Int.ofNat 0) fun r_14 =>
 some ((r_14.1, 0, 0, 0, false), r_14.2))
 else
 (bif r_12.1 == 2 then
 (bif decide ((↑(b.2.2.2.1.length) : Int) > 0) then
 (ob (F.f_38 N r_12.2 (↑(b.2.2.2.1.length) : Int)) dR fun r_15 =>
 bif decide (0 ≤ r_15.1) then
 (bif decide (r_15.1 < (↑(b.2.2.2.1.length) : Int)) then
 (ob (F.f_70 N (b.2.2.2.1.getD r_15.1.toNat dPart).1) dWant fun r_16 =>
 some ((r_16, 0, 0, 0, false), r_15.2)) else none) else none)
 else
 (some ((r_11.1, 0, 0, 0, false), r_12.2)))
 else
 (some ((r_11.1, 0, 0, 0, false), r_12.2))))))))
def f_95 (N : Nat) (n : Int) (low : Int) (high : Int) : Option Bool :=
 bif decide (n ≥ low) then
 (some (decide (n ≤ high)))
 else
 (some false)
def f_46_0r (N : Nat) (s : Txt) (next : Int → Option Bool) : Int → Option Bool := fun i3 =>
 bif decide (i3 < (↑s.length : Int)) then
 (bif decide (0 ≤ i3) then
 (bif decide (i3 < (↑s.length : Int)) then
 (bif decide ((↑(s.getD i3.toNat 0).toNat : Int) ≥ 97) then
 (bif decide ((↑(s.getD i3.toNat 0).toNat : Int) ≤ 122) then
 (next (i64.wrap (i3 + 1)))
 else
 (bif decide ((↑(s.getD i3.toNat 0).toNat : Int) ≥ 48) then
 (bif decide ((↑(s.getD i3.toNat 0).toNat : Int) ≤ 57) then
 (next (i64.wrap (i3 + 1)))
 else
 (bif !(↑(s.getD i3.toNat 0).toNat : Int) == 45 then
 (some false)
 else
 (next (i64.wrap (i3 + 1)))))
 else
 (bif !(↑(s.getD i3.toNat 0).toNat : Int) == 45 then
 (some false)
 else
 (next (i64.wrap (i3 + 1))))))
 else
 (bif decide ((↑(s.getD i3.toNat 0).toNat : Int) ≥ 48) then
 (bif decide ((↑(s.getD i3.toNat 0).toNat : Int) ≤ 57) then
 (next (i64.wrap (i3 + 1)))
 else
 (bif !(↑(s.getD i3.toNat 0).toNat : Int) == 45 then
 (some false)
 else
 (next (i64.wrap (i3 + 1)))))
 else
 (bif !(↑(s.getD i3.toNat 0).toNat : Int) == 45 then
 (some false)
 else
 (next (i64.wrap (i3 + 1)))))) else none) else none)
 else
 (some true)
def f_46_0 (N : Nat) (s : Txt) : Nat → Int → Option Bool := lp (fun _ => none) fun next => f_46_0r N s next
def f_46b (N : Nat) (I0 : Txt → Nat → Int → Option Bool) (s : Txt) : Option Bool :=
 ob (F.f_95 N (↑s.length : Int) 1 8) false fun r =>
 bif !r then
 (some false)
 else
 (I0 s N 0)
def f_46 (N : Nat) (s : Txt) : Option Bool := f_46b N (f_46_0 N) s
def f_48_0r (N : Nat) (b : Book) (next : Int → Option Bool) : Int → Option Bool := fun i3 =>
 bif decide (i3 < (↑(b.1.length) : Int)) then
 (bif decide (0 ≤ i3) then
 (bif decide (i3 < (↑(b.1.length) : Int)) then
 (ob (F.f_46 N (b.1.getD i3.toNat dFoe).1) false fun r =>
 bif !r then
 (some false)
 else
 (ob (F.f_46 N (b.1.getD i3.toNat dFoe).2) false fun r_1 =>
 bif !r_1 then
 (some false)
 else
 (bif !Op.bytesLess (b.1.getD i3.toNat dFoe).1 (b.1.getD i3.toNat dFoe).2 then
 (some false)
 else
 (bif decide (i3 > 0) then
 (bif decide (0 ≤ i64.wrap (i3 - 1)) then
 (bif decide (i64.wrap (i3 - 1) < (↑(b.1.length) : Int)) then
 (bif !(Op.bytesLess (b.1.getD (i64.wrap (i3 - 1)).toNat dFoe).1 (b.1.getD i3.toNat dFoe).1 || (b.1.getD (i64.wrap (i3 - 1)).toNat dFoe).1 == (b.1.getD i3.toNat dFoe).1) then
 (some false)
 else
 (bif decide (0 ≤ i64.wrap (i3 - 1)) then
 (bif decide (i64.wrap (i3 - 1) < (↑(b.1.length) : Int)) then
 (bif (b.1.getD (i64.wrap (i3 - 1)).toNat dFoe).1 == (b.1.getD i3.toNat dFoe).1 then
 (bif decide (0 ≤ i64.wrap (i3 - 1)) then
 (bif decide (i64.wrap (i3 - 1) < (↑(b.1.length) : Int)) then
 (bif !Op.bytesLess (b.1.getD (i64.wrap (i3 - 1)).toNat dFoe).2 (b.1.getD i3.toNat dFoe).2 then
 (some false)
 else
 (next (i64.wrap (i3 + 1)))) else none) else none)
 else
 (next (i64.wrap (i3 + 1)))) else none) else none)) else none) else none)
 else
 (next (i64.wrap (i3 + 1))))))) else none) else none)
 else
 (some true)
def f_48_0 (N : Nat) (b : Book) : Nat → Int → Option Bool := lp (fun _ => none) fun next => f_48_0r N b next
def f_48b (N : Nat) (I0 : Book → Nat → Int → Option Bool) (b : Book) : Option Bool :=
 bif decide ((↑(b.1.length) : Int) > 12) then
 (some false)
 else
 (I0 b N 0)
def f_48 (N : Nat) (b : Book) : Option Bool := f_48b N (f_48_0 N) b
def f_37_0r (N : Nat) (list : List Txt) (next : Int → Option Bool) : Int → Option Bool := fun i5 =>
 bif decide (i5 < (↑list.length : Int)) then
 (bif decide (0 ≤ i5) then
 (bif decide (i5 < (↑list.length : Int)) then
 (ob (F.f_46 N (list.getD i5.toNat [])) false fun r =>
 bif !r then
 (some false)
 else
 (bif decide (i5 > 0) then
 (bif decide (0 ≤ i64.wrap (i5 - 1)) then
 (bif decide (i64.wrap (i5 - 1) < (↑list.length : Int)) then
 (bif decide (0 ≤ i5) then
 (bif decide (i5 < (↑list.length : Int)) then
 (bif !Op.bytesLess (list.getD (i64.wrap (i5 - 1)).toNat []) (list.getD i5.toNat []) then
 (some false)
 else
 (next (i64.wrap (i5 + 1)))) else none) else none) else none) else none)
 else
 (next (i64.wrap (i5 + 1))))) else none) else none)
 else
 (some true)
def f_37_0 (N : Nat) (list : List Txt) : Nat → Int → Option Bool := lp (fun _ => none) fun next => f_37_0r N list next
def f_37b (N : Nat) (I0 : (List Txt) → Nat → Int → Option Bool) (list : List Txt) (most : Int) : Option Bool :=
 bif decide ((↑list.length : Int) > most) then
 (some false)
 else
 (I0 list N 0)
def f_37 (N : Nat) (list : List Txt) (most : Int) : Option Bool := f_37b N (f_37_0 N) list most
def f_72_0r (N : Nat) (b : Book) (x : Txt) (y : Txt) (next : Int → Option Bool) : Int → Option Bool := fun i7 =>
 bif decide (i7 < (↑(b.1.length) : Int)) then
 (bif decide (0 ≤ i7) then
 (bif decide (i7 < (↑(b.1.length) : Int)) then
 (bif (b.1.getD i7.toNat dFoe).1 == x then
 (bif decide (0 ≤ i7) then
 (bif decide (i7 < (↑(b.1.length) : Int)) then
 (bif (b.1.getD i7.toNat dFoe).2 == y then
 (some true)
 else
 (bif decide (0 ≤ i7) then
 (bif decide (i7 < (↑(b.1.length) : Int)) then
 (bif (b.1.getD i7.toNat dFoe).1 == y then
 (bif decide (0 ≤ i7) then
 (bif decide (i7 < (↑(b.1.length) : Int)) then
 (bif (b.1.getD i7.toNat dFoe).2 == x then
 (some true)
 else
 (next (i64.wrap (i7 + 1)))) else none) else none)
 else
 (next (i64.wrap (i7 + 1)))) else none) else none)) else none) else none)
 else
 (bif decide (0 ≤ i7) then
 (bif decide (i7 < (↑(b.1.length) : Int)) then
 (bif (b.1.getD i7.toNat dFoe).1 == y then
 (bif decide (0 ≤ i7) then
 (bif decide (i7 < (↑(b.1.length) : Int)) then
 (bif (b.1.getD i7.toNat dFoe).2 == x then
 (some true)
 else
 (next (i64.wrap (i7 + 1)))) else none) else none)
 else
 (next (i64.wrap (i7 + 1)))) else none) else none)) else none) else none)
 else
 (some false)
def f_72_0 (N : Nat) (b : Book) (x : Txt) (y : Txt) : Nat → Int → Option Bool := lp (fun _ => none) fun next => f_72_0r N b x y next
def f_72b (N : Nat) (I0 : Book → Txt → Txt → Nat → Int → Option Bool) (b : Book) (x : Txt) (y : Txt) : Option Bool :=
 I0 b x y N 0
def f_72 (N : Nat) (b : Book) (x : Txt) (y : Txt) : Option Bool := f_72b N (f_72_0 N) b x y
def f_58_0r (N : Nat) (b : Book) (stuff : Txt) (may : List Txt) (next : Int → Option Bool) : Int → Option Bool := fun i7 =>
 bif decide (i7 < (↑may.length : Int)) then
 (bif decide (0 ≤ i7) then
 (bif decide (i7 < (↑may.length : Int)) then
 (ob (F.f_72 N b stuff (may.getD i7.toNat [])) false fun r =>
 bif r then
 (some true)
 else
 (next (i64.wrap (i7 + 1)))) else none) else none)
 else
 (some false)
def f_58_0 (N : Nat) (b : Book) (stuff : Txt) (may : List Txt) : Nat → Int → Option Bool := lp (fun _ => none) fun next => f_58_0r N b stuff may next
def f_58b (N : Nat) (I0 : Book → Txt → (List Txt) → Nat → Int → Option Bool) (b : Book) (stuff : Txt) (may : List Txt) : Option Bool :=
 I0 b stuff may N 0
def f_58 (N : Nat) (b : Book) (stuff : Txt) (may : List Txt) : Option Bool := f_58b N (f_58_0 N) b stuff may
def f_50_0r (N : Nat) (b : Book) (s : Spot) (next : Int → Option Bool) : Int → Option Bool := fun i5 =>
 bif decide (i5 < (↑(s.2.2.2.2.length) : Int)) then
 (bif decide (0 ≤ i5) then
 (bif decide (i5 < (↑(s.2.2.2.2.length) : Int)) then
 (ob (F.f_58 N b (s.2.2.2.2.getD i5.toNat []) s.2.2.2.2) false fun r_4 =>
 bif r_4 then
 (some false)
 else
 (next (i64.wrap (i5 + 1)))) else none) else none)
 else
 (some true)
def f_50_0 (N : Nat) (b : Book) (s : Spot) : Nat → Int → Option Bool := lp (fun _ => none) fun next => f_50_0r N b s next
def f_50b (N : Nat) (I0 : Book → Spot → Nat → Int → Option Bool) (b : Book) (s : Spot) : Option Bool :=
 ob (F.f_46 N s.1) false fun r =>
 bif !r then
 (some false)
 else
 (ob (F.f_95 N s.2.1 0 1000) false fun r_1 =>
 bif !r_1 then
 (some false)
 else
 (ob (F.f_95 N s.2.2.1 0 s.2.2.2.1) false fun r_2 =>
 bif !r_2 then
 (some false)
 else
 (bif decide (s.2.2.2.1 > s.2.1) then
 (some false)
 else
 (ob (F.f_37 N s.2.2.2.2 8) false fun r_3 =>
 bif !r_3 then
 (some false)
 else
 (I0 b s N 0)))))
def f_50 (N : Nat) (b : Book) (s : Spot) : Option Bool := f_50b N (f_50_0 N) b s
def f_47_0r (N : Nat) (w : Want) (next : Int → Option Bool) : Int → Option Bool := fun i3 =>
 bif decide (i3 < (↑(w.2.2.2.1.length) : Int)) then
 (bif decide (0 ≤ i3) then
 (bif decide (i3 < (↑(w.2.2.2.1.length) : Int)) then
 (ob (F.f_46 N (w.2.2.2.1.getD i3.toNat dUse).1) false fun r =>
 bif !r then
 (some false)
 else
 (bif decide (i3 > 0) then
 (bif decide (0 ≤ i64.wrap (i3 - 1)) then
 (bif decide (i64.wrap (i3 - 1) < (↑(w.2.2.2.1.length) : Int)) then
 (bif !Op.bytesLess (w.2.2.2.1.getD (i64.wrap (i3 - 1)).toNat dUse).1 (w.2.2.2.1.getD i3.toNat dUse).1 then
 (some false)
 else
 (ob (F.f_95 N (w.2.2.2.1.getD i3.toNat dUse).2.1 1 3) false fun r_1 =>
 bif !r_1 then
 (some false)
 else
 (bif (w.2.2.2.1.getD i3.toNat dUse).2.1 == 3 then
 (bif (w.2.2.2.1.getD i3.toNat dUse).2.2 != 0 then
 (some false)
 else
 (bif (w.2.2.2.1.getD i3.toNat dUse).2.1 != 3 then
 (bif w.2.1 != 1 then
 (some false)
 else
 (ob (F.f_95 N (w.2.2.2.1.getD i3.toNat dUse).2.2 1 1000) false fun r_2 =>
 bif !r_2 then
 (some false)
 else
 (next (i64.wrap (i3 + 1)))))
 else
 (next (i64.wrap (i3 + 1)))))
 else
 (bif (w.2.2.2.1.getD i3.toNat dUse).2.1 != 3 then
 (bif w.2.1 != 1 then
 (some false)
 else
 (ob (F.f_95 N (w.2.2.2.1.getD i3.toNat dUse).2.2 1 1000) false fun r_3 =>
 bif !r_3 then
 (some false)
 else
 (next (i64.wrap (i3 + 1)))))
 else
 (next (i64.wrap (i3 + 1))))))) else none) else none)
 else
 (ob (F.f_95 N (w.2.2.2.1.getD i3.toNat dUse).2.1 1 3) false fun r_4 =>
 bif !r_4 then
 (some false)
 else
 (bif (w.2.2.2.1.getD i3.toNat dUse).2.1 == 3 then
 (bif (w.2.2.2.1.getD i3.toNat dUse).2.2 != 0 then
 (some false)
 else
 (bif (w.2.2.2.1.getD i3.toNat dUse).2.1 != 3 then
 (bif w.2.1 != 1 then
 (some false)
 else
 (ob (F.f_95 N (w.2.2.2.1.getD i3.toNat dUse).2.2 1 1000) false fun r_5 =>
 bif !r_5 then
 (some false)
 else
 (next (i64.wrap (i3 + 1)))))
 else
 (next (i64.wrap (i3 + 1)))))
 else
 (bif (w.2.2.2.1.getD i3.toNat dUse).2.1 != 3 then
 (bif w.2.1 != 1 then
 (some false)
 else
 (ob (F.f_95 N (w.2.2.2.1.getD i3.toNat dUse).2.2 1 1000) false fun r_6 =>
 bif !r_6 then
 (some false)
 else
 (next (i64.wrap (i3 + 1)))))
 else
 (next (i64.wrap (i3 + 1)))))))) else none) else none)
 else
 (some true)
def f_47_0 (N : Nat) (w : Want) : Nat → Int → Option Bool := lp (fun _ => none) fun next => f_47_0r N w next
def f_47b (N : Nat) (I0 : Want → Nat → Int → Option Bool) (w : Want) : Option Bool :=
 bif decide ((↑(w.2.2.2.1.length) : Int) > 8) then
 (some false)
 else
 (I0 w N 0)
def f_47 (N : Nat) (w : Want) : Option Bool := f_47b N (f_47_0 N) w
def f_57_0r (N : Nat) (a : List Txt) (b : List Txt) (next : Int → Option Bool) : Int → Option Bool := fun i5 =>
 bif decide (i5 < (↑a.length : Int)) then
 (bif decide (0 ≤ i5) then
 (bif decide (i5 < (↑a.length : Int)) then
 (ob (F.f_90 N b (a.getD i5.toNat [])) false fun r =>
 bif r then
 (some true)
 else
 (next (i64.wrap (i5 + 1)))) else none) else none)
 else
 (some false)
def f_57_0 (N : Nat) (a : List Txt) (b : List Txt) : Nat → Int → Option Bool := lp (fun _ => none) fun next => f_57_0r N a b next
def f_57b (N : Nat) (I0 : (List Txt) → (List Txt) → Nat → Int → Option Bool) (a : List Txt) (b : List Txt) : Option Bool :=
 I0 a b N 0
def f_57 (N : Nat) (a : List Txt) (b : List Txt) : Option Bool := f_57b N (f_57_0 N) a b
def f_28 (N : Nat) (w : Want) : Option Bool :=
 ob (F.f_95 N w.1 1 1000000) false fun r =>
 bif !r then
 (some false)
 else
 (ob (F.f_95 N w.2.1 1 3) false fun r_1 =>
 bif !r_1 then
 (some false)
 else
 (ob (F.f_47 N w) false fun r_2 =>
 bif !r_2 then
 (some false)
 else
 (ob (F.f_37 N w.2.2.2.2.1 12) false fun r_3 =>
 bif !r_3 then
 (some false)
 else
 (ob (F.f_37 N w.2.2.2.2.2 12) false fun r_4 =>
 bif !r_4 then
 (some false)
 else
 (ob (F.f_57 N w.2.2.2.2.1 w.2.2.2.2.2) false fun r_5 =>
 bif r_5 then
 (some false)
 else
 (bif i64.wrap (i64.wrap ((↑(w.2.2.2.1.length) : Int) + (↑(w.2.2.2.2.1.length) : Int)) + (↑(w.2.2.2.2.2.length) : Int)) == 0 then
 (some false)
 else
 (bif w.2.1 != 1 then
 (bif decide ((↑(w.2.2.2.2.1.length) : Int) > 0) then
 (some false)
 else
 (ob (F.f_37 N w.2.2.1 8) false fun r_6 =>
 bif r_6 then
 (some ((w.2.1 == 1) == decide ((↑(w.2.2.1.length) : Int) > 0)))
 else
 (some false)))
 else
 (ob (F.f_37 N w.2.2.1 8) false fun r_7 =>
 bif r_7 then
 (some ((w.2.1 == 1) == decide ((↑(w.2.2.1.length) : Int) > 0)))
 else
 (some false)))))))))
def f_74_0r (N : Nat) (b : Book) (name : Txt) (next : Int → Option Int) : Int → Option Int := fun i5 =>
 bif decide (i5 < (↑(b.2.1.length) : Int)) then
 (bif decide (0 ≤ i5) then
 (bif decide (i5 < (↑(b.2.1.length) : Int)) then
 (bif (b.2.1.getD i5.toNat dSpot).1 == name then
 (some i5)
 else
 (next (i64.wrap (i5 + 1)))) else none) else none)
 else
 (some (-1))
def f_74_0 (N : Nat) (b : Book) (name : Txt) : Nat → Int → Option Int := lp (fun _ => none) fun next => f_74_0r N b name next
def f_74b (N : Nat) (I0 : Book → Txt → Nat → Int → Option Int) (b : Book) (name : Txt) : Option Int :=
 I0 b name N 0
def f_74 (N : Nat) (b : Book) (name : Txt) : Option Int := f_74b N (f_74_0 N) b name
def f_59_4r (N : Nat) (b : Book) (w : Want) (next : Int → Option Bool) : Int → Option Bool := fun i7 =>
 bif decide (i7 < (↑(w.2.2.2.2.2.length) : Int)) then
 (bif decide (0 ≤ i7) then
 (bif decide (i7 < (↑(w.2.2.2.2.2.length) : Int)) then
 (ob (F.f_90 N b.2.2.1 (w.2.2.2.2.2.getD i7.toNat [])) false fun r_2 =>
 bif !r_2 then
 (some false)
 else
 (next (i64.wrap (i7 + 1)))) else none) else none)
 else
 (some true)
def f_59_4 (N : Nat) (b : Book) (w : Want) : Nat → Int → Option Bool := lp (fun _ => none) fun next => f_59_4r N b w next
def f_59_2r (N : Nat) (I0 : Book → Want → Nat → Int → Option Bool) (b : Book) (w : Want) (next : Int → Option Bool) : Int → Option Bool := fun i6 =>
 bif decide (i6 < (↑(w.2.2.2.2.1.length) : Int)) then
 (bif decide (0 ≤ i6) then
 (bif decide (i6 < (↑(w.2.2.2.2.1.length) : Int)) then
 (ob (F.f_90 N b.2.2.1 (w.2.2.2.2.1.getD i6.toNat [])) false fun r_1 =>
 bif !r_1 then
 (some false)
 else
 (next (i64.wrap (i6 + 1)))) else none) else none)
 else
 (I0 b w N 0)
def f_59_2 (N : Nat) (b : Book) (w : Want) : Nat → Int → Option Bool := lp (fun _ => none) fun next => f_59_2r N (f_59_4 N) b w next
def f_59_0r (N : Nat) (I1 : Book → Want → Nat → Int → Option Bool) (b : Book) (w : Want) (next : Int → Option Bool) : Int → Option Bool := fun i5 =>
 bif decide (i5 < (↑(w.2.2.2.1.length) : Int)) then
 (bif decide (0 ≤ i5) then
 (bif decide (i5 < (↑(w.2.2.2.1.length) : Int)) then
 (ob (F.f_74 N b (w.2.2.2.1.getD i5.toNat dUse).1) (Int.ofNat 0) fun r =>
 bif decide (r < 0) then
 (some false)
 else
 (next (i64.wrap (i5 + 1)))) else none) else none)
 else
 (I1 b w N 0)
def f_59_0 (N : Nat) (b : Book) (w : Want) : Nat → Int → Option Bool := lp (fun _ => none) fun next => f_59_0r N (f_59_2 N) b w next
def f_59b (N : Nat) (I2 : Book → Want → Nat → Int → Option Bool) (b : Book) (w : Want) : Option Bool :=
 I2 b w N 0
def f_59 (N : Nat) (b : Book) (w : Want) : Option Bool := f_59b N (f_59_0 N) b w
def f_89_0r (N : Nat) (a : List Txt) (b : List Txt) (next : Int → Option Bool) : Int → Option Bool := fun i5 =>
 bif decide (i5 < (↑a.length : Int)) then
 (bif decide (0 ≤ i5) then
 (bif decide (i5 < (↑a.length : Int)) then
 (ob (F.f_90 N b (a.getD i5.toNat [])) false fun r =>
 bif !r then
 (some false)
 else
 (next (i64.wrap (i5 + 1)))) else none) else none)
 else
 (some true)
def f_89_0 (N : Nat) (a : List Txt) (b : List Txt) : Nat → Int → Option Bool := lp (fun _ => none) fun next => f_89_0r N a b next
def f_89b (N : Nat) (I0 : (List Txt) → (List Txt) → Nat → Int → Option Bool) (a : List Txt) (b : List Txt) : Option Bool :=
 I0 a b N 0
def f_89 (N : Nat) (a : List Txt) (b : List Txt) : Option Bool := f_89b N (f_89_0 N) a b
def f_60 (N : Nat) (s : Spot) (w : Want) (u : Use) : Option Bool :=
 bif w.2.1 == 2 then
 (bif decide (s.2.2.2.1 > 0) then
 (some false)
 else
 (bif w.2.1 == 1 then
 (bif u.2.1 != 2 then
 (ob (F.f_89 N s.2.2.2.2 w.2.2.1) false fun r =>
 bif !r then
 (some false)
 else
 (bif w.2.1 == 1 then
 (bif u.2.1 != 1 then
 (ob (F.f_89 N w.2.2.1 s.2.2.2.2) false fun r_1 =>
 bif !r_1 then
 (some false)
 else
 (some (decide (i64.wrap (s.2.2.1 + u.2.2) ≤ s.2.2.2.1))))
 else
 (some (decide (i64.wrap (s.2.2.1 + u.2.2) ≤ s.2.2.2.1))))
 else
 (some (decide (i64.wrap (s.2.2.1 + u.2.2) ≤ s.2.2.2.1)))))
 else
 (bif w.2.1 == 1 then
 (bif u.2.1 != 1 then
 (ob (F.f_89 N w.2.2.1 s.2.2.2.2) false fun r_2 =>
 bif !r_2 then
 (some false)
 else
 (some (decide (i64.wrap (s.2.2.1 + u.2.2) ≤ s.2.2.2.1))))
 else
 (some (decide (i64.wrap (s.2.2.1 + u.2.2) ≤ s.2.2.2.1))))
 else
 (some (decide (i64.wrap (s.2.2.1 + u.2.2) ≤ s.2.2.2.1)))))
 else
 (bif w.2.1 == 1 then
 (bif u.2.1 != 1 then
 (ob (F.f_89 N w.2.2.1 s.2.2.2.2) false fun r_3 =>
 bif !r_3 then
 (some false)
 else
 (some (decide (i64.wrap (s.2.2.1 + u.2.2) ≤ s.2.2.2.1))))
 else
 (some (decide (i64.wrap (s.2.2.1 + u.2.2) ≤ s.2.2.2.1))))
 else
 (some (decide (i64.wrap (s.2.2.1 + u.2.2) ≤ s.2.2.2.1))))))
 else
 (bif w.2.1 == 1 then
 (bif u.2.1 != 2 then
 (ob (F.f_89 N s.2.2.2.2 w.2.2.1) false fun r_4 =>
 bif !r_4 then
 (some false)
 else
 (bif w.2.1 == 1 then
 (bif u.2.1 != 1 then
 (ob (F.f_89 N w.2.2.1 s.2.2.2.2) false fun r_5 =>
 bif !r_5 then
 (some false)
 else
 (some (decide (i64.wrap (s.2.2.1 + u.2.2) ≤ s.2.2.2.1))))
 else
 (some (decide (i64.wrap (s.2.2.1 + u.2.2) ≤ s.2.2.2.1))))
 else
 (some (decide (i64.wrap (s.2.2.1 + u.2.2) ≤ s.2.2.2.1)))))
 else
 (bif w.2.1 == 1 then
 (bif u.2.1 != 1 then
 (ob (F.f_89 N w.2.2.1 s.2.2.2.2) false fun r_6 =>
 bif !r_6 then
 (some false)
 else
 (some (decide (i64.wrap (s.2.2.1 + u.2.2) ≤ s.2.2.2.1))))
 else
 (some (decide (i64.wrap (s.2.2.1 + u.2.2) ≤ s.2.2.2.1))))
 else
 (some (decide (i64.wrap (s.2.2.1 + u.2.2) ≤ s.2.2.2.1)))))
 else
 (bif w.2.1 == 1 then
 (bif u.2.1 != 1 then
 (ob (F.f_89 N w.2.2.1 s.2.2.2.2) false fun r_7 =>
 bif !r_7 then
 (some false)
 else
 (some (decide (i64.wrap (s.2.2.1 + u.2.2) ≤ s.2.2.2.1))))
 else
 (some (decide (i64.wrap (s.2.2.1 + u.2.2) ≤ s.2.2.2.1))))
 else
 (some (decide (i64.wrap (s.2.2.1 + u.2.2) ≤ s.2.2.2.1)))))
def f_49_0r (N : Nat) (b : Book) (p : Part) (next : Int → Option Bool) : Int → Option Bool := fun i5 =>
 bif decide (i5 < (↑(p.1.2.2.2.1.length) : Int)) then
 (bif decide (0 ≤ i5) then
 (bif decide (i5 < (↑(p.1.2.2.2.1.length) : Int)) then
 (ob (F.f_74 N b (p.1.2.2.2.1.getD i5.toNat dUse).1) (Int.ofNat 0) fun r_2 =>
 bif decide (0 ≤ r_2) then
 (bif decide (r_2 < (↑(b.2.1.length) : Int)) then
 (bif decide (0 ≤ i5) then
 (bif decide (i5 < (↑(p.1.2.2.2.1.length) : Int)) then
 (ob (F.f_60 N (b.2.1.getD r_2.toNat dSpot) p.1 (p.1.2.2.2.1.getD i5.toNat dUse)) false fun r_3 =>
 bif !r_3 then
 (some false)
 else
 (next (i64.wrap (i5 + 1)))) else none) else none) else none) else none) else none) else none)
 else
 (some true)
def f_49_0 (N : Nat) (b : Book) (p : Part) : Nat → Int → Option Bool := lp (fun _ => none) fun next => f_49_0r N b p next
def f_49b (N : Nat) (I0 : Book → Part → Nat → Int → Option Bool) (b : Book) (p : Part) : Option Bool :=
 ob (F.f_28 N p.1) false fun r =>
 bif !r then
 (some false)
 else
 (bif decide (p.1.1 > b.2.2.2.2) then
 (some false)
 else
 (ob (F.f_59 N b p.1) false fun r_1 =>
 bif !r_1 then
 (some false)
 else
 (I0 b p N 0)))
def f_49 (N : Nat) (b : Book) (p : Part) : Option Bool := f_49b N (f_49_0 N) b p
def f_75_0r (N : Nat) (w : Want) (next : Int → (List Txt) → Option (List Txt)) : Int → (List Txt) → Option (List Txt) := fun i4 out3a =>
 bif decide (i4 < (↑(w.2.2.2.1.length) : Int)) then
 (bif decide (0 ≤ i4) then
 (bif decide (i4 < (↑(w.2.2.2.1.length) : Int)) then
 (bif decide ((out3a.length + [(w.2.2.2.1.getD i4.toNat dUse).1].length) * 16 ≤ lim) then
 (next (i64.wrap (i4 + 1)) (out3a ++ [(w.2.2.2.1.getD i4.toNat dUse).1])) else none) else none) else none)
 else
 (some out3a)
def f_75_0 (N : Nat) (w : Want) : Nat → Int → (List Txt) → Option (List Txt) := lp (fun _ _ => none) fun next => f_75_0r N w next
def f_75b (N : Nat) (I0 : Want → Nat → Int → (List Txt) → Option (List Txt)) (w : Want) : Option (List Txt) :=
 I0 w N 0 []
def f_75 (N : Nat) (w : Want) : Option (List Txt) := f_75b N (f_75_0 N) w
def f_40 (N : Nat) (a : Want) (b : Want) : Option Bool :=
 ob (F.f_57 N a.2.2.2.2.1 b.2.2.2.2.1) false fun r =>
 bif r then
 (some true)
 else
 (ob (F.f_57 N a.2.2.2.2.1 b.2.2.2.2.2) false fun r_1 =>
 bif r_1 then
 (some true)
 else
 (ob (F.f_57 N a.2.2.2.2.2 b.2.2.2.2.1) false fun r_2 =>
 some r_2))
def f_41_2r (N : Nat) (nx0 : Int → Option Bool) (b : Book) (i3 : Int) (w4c0 : Int) (w4c1 : Int) (w4c2 : List Txt) (w4c3 : List Use) (w4c4 : List Txt) (w4c5 : List Txt) (next : Int → Option Bool) : Int → Option Bool := fun k5 =>
 bif decide (k5 < i3) then
 (bif decide (0 ≤ k5) then
 (bif decide (k5 < (↑(b.2.2.2.1.length) : Int)) then
 (ob (F.f_75 N (w4c0, w4c1, w4c2, w4c3, w4c4, w4c5)) [] fun r_1 =>
 ob (F.f_75 N (b.2.2.2.1.getD k5.toNat dPart).1) [] fun r_2 =>
 ob (F.f_57 N r_1 r_2) false fun r_3 =>
 bif r_3 then
 (some false)
 else
 (ob (F.f_40 N (w4c0, w4c1, w4c2, w4c3, w4c4, w4c5) (b.2.2.2.1.getD k5.toNat dPart).1) false fun r_4 =>
 bif r_4 then
 (some false)
 else
 (next (i64.wrap (k5 + 1))))) else none) else none)
 else
 (nx0 (i64.wrap (i3 + 1)))
def f_41_2 (N : Nat) (nx0 : Int → Option Bool) (b : Book) (i3 : Int) (w4c0 : Int) (w4c1 : Int) (w4c2 : List Txt) (w4c3 : List Use) (w4c4 : List Txt) (w4c5 : List Txt) : Nat → Int → Option Bool := lp (fun _ => none) fun next => f_41_2r N nx0 b i3 w4c0 w4c1 w4c2 w4c3 w4c4 w4c5 next
def f_41_0r (N : Nat) (I0 : Int → Int → Int → (List Txt) → (List Use) → (List Txt) → (List Txt) → Nat → Int → Option Bool) (b : Book) (next : Int → Option Bool) : Int → Option Bool := fun i3 =>
 bif decide (i3 < (↑(b.2.2.2.1.length) : Int)) then
 (bif decide (0 ≤ i3) then
 (bif decide (i3 < (↑(b.2.2.2.1.length) : Int)) then
 (bif decide (0 ≤ i3) then
 (bif decide (i3 < (↑(b.2.2.2.1.length) : Int)) then
 (ob (F.f_49 N b (b.2.2.2.1.getD i3.toNat dPart)) false fun r =>
 bif !r then
 (some false)
 else
 (bif decide (i3 > 0) then
 (bif decide (0 ≤ i64.wrap (i3 - 1)) then
 (bif decide (i64.wrap (i3 - 1) < (↑(b.2.2.2.1.length) : Int)) then
 (bif decide ((b.2.2.2.1.getD (i64.wrap (i3 - 1)).toNat dPart).1.1 ≥ (b.2.2.2.1.getD i3.toNat dPart).1.1) then
 (some false)
 else
 (I0 i3 ((b.2.2.2.1.getD i3.toNat dPart).1.1) ((b.2.2.2.1.getD i3.toNat dPart).1.2.1) ((b.2.2.2.1.getD i3.toNat dPart).1.2.2.1) ((b.2.2.2.1.getD i3.toNat dPart).1.2.2.2.1) ((b.2.2.2.1.getD i3.toNat dPart).1.2.2.2.2.1) ((b.2.2.2.1.getD i3.toNat dPart).1.2.2.2.2.2) N 0)) else none) else none)
 else
 (I0 i3 ((b.2.2.2.1.getD i3.toNat dPart).1.1) ((b.2.2.2.1.getD i3.toNat dPart).1.2.1) ((b.2.2.2.1.getD i3.toNat dPart).1.2.2.1) ((b.2.2.2.1.getD i3.toNat dPart).1.2.2.2.1) ((b.2.2.2.1.getD i3.toNat dPart).1.2.2.2.2.1) ((b.2.2.2.1.getD i3.toNat dPart).1.2.2.2.2.2) N 0))) else none) else none) else none) else none)
 else
 (some true)
def f_41_0 (N : Nat) (b : Book) : Nat → Int → Option Bool := lp (fun _ => none) fun next => f_41_0r N (f_41_2 N next b) b next
def f_41b (N : Nat) (I1 : Book → Nat → Int → Option Bool) (b : Book) : Option Bool :=
 bif decide ((↑(b.2.2.2.1.length) : Int) > 6) then
 (some false)
 else
 (I1 b N 0)
def f_41 (N : Nat) (b : Book) : Option Bool := f_41b N (f_41_0 N) b
def f_27_0r (N : Nat) (b : Book) (next : Int → Option Bool) : Int → Option Bool := fun i3 =>
 bif decide (i3 < (↑(b.2.1.length) : Int)) then
 (bif decide (0 ≤ i3) then
 (bif decide (i3 < (↑(b.2.1.length) : Int)) then
 (ob (F.f_50 N b (b.2.1.getD i3.toNat dSpot)) false fun r_3 =>
 bif !r_3 then
 (some false)
 else
 (bif decide (i3 > 0) then
 (bif decide (0 ≤ i64.wrap (i3 - 1)) then
 (bif decide (i64.wrap (i3 - 1) < (↑(b.2.1.length) : Int)) then
 (bif decide (0 ≤ i3) then
 (bif decide (i3 < (↑(b.2.1.length) : Int)) then
 (bif !Op.bytesLess (b.2.1.getD (i64.wrap (i3 - 1)).toNat dSpot).1 (b.2.1.getD i3.toNat dSpot).1 then
 (some false)
 else
 (next (i64.wrap (i3 + 1)))) else none) else none) else none) else none)
 else
 (next (i64.wrap (i3 + 1))))) else none) else none)
 else
 (ob (F.f_41 N b) false fun r_4 =>
 some r_4)
def f_27_0 (N : Nat) (b : Book) : Nat → Int → Option Bool := lp (fun _ => none) fun next => f_27_0r N b next
def f_27b (N : Nat) (I0 : Book → Nat → Int → Option Bool) (b : Book) : Option Bool :=
 ob (F.f_48 N b) false fun r =>
 bif !r then
 (some false)
 else
 (bif decide ((↑(b.2.1.length) : Int) > 8) then
 (some false)
 else
 (ob (F.f_37 N b.2.2.1 12) false fun r_1 =>
 bif !r_1 then
 (some false)
 else
 (ob (F.f_95 N b.2.2.2.2 0 1000000) false fun r_2 =>
 bif !r_2 then
 (some false)
 else
 (I0 b N 0))))
def f_27 (N : Nat) (b : Book) : Option Bool := f_27b N (f_27_0 N) b
def f_71_2r (N : Nat) (b : Book) (r : List Txt) (t2c4 : Int) (x3c0a : List Foe) (x3c1a : List Spot) (next : Int → (List Part) → Option Book) : Int → (List Part) → Option Book := fun i6 x3c3a =>
 bif decide (i6 < (↑(b.2.2.2.1.length) : Int)) then
 (bif decide (0 ≤ i6) then
 (bif decide (i6 < (↑(b.2.2.2.1.length) : Int)) then
 (ob (F.f_70 N (b.2.2.2.1.getD i6.toNat dPart).1) dWant fun r_2 =>
 bif decide (0 ≤ i6) then
 (bif decide (i6 < (↑(b.2.2.2.1.length) : Int)) then
 (bif decide ((x3c3a.length + [(r_2, (b.2.2.2.1.getD i6.toNat dPart).2)].length) * 120 ≤ lim) then
 (next (i64.wrap (i6 + 1)) (x3c3a ++ [(r_2, (b.2.2.2.1.getD i6.toNat dPart).2)])) else none) else none) else none) else none) else none)
 else
 (some (x3c0a, x3c1a, r, x3c3a, b.2.2.2.2))
def f_71_2 (N : Nat) (b : Book) (r : List Txt) (t2c4 : Int) (x3c0a : List Foe) (x3c1a : List Spot) : Nat → Int → (List Part) → Option Book := lp (fun _ _ => none) fun next => f_71_2r N b r t2c4 x3c0a x3c1a next
def f_71_0r (N : Nat) (I0 : Book → (List Txt) → Int → (List Foe) → (List Spot) → Nat → Int → (List Part) → Option Book) (b : Book) (r : List Txt) (t2c4 : Int) (x3c0a : List Foe) (next : Int → (List Spot) → Option Book) : Int → (List Spot) → Option Book := fun i4 x3c1a =>
 bif decide (i4 < (↑(b.2.1.length) : Int)) then
 (bif decide (0 ≤ i4) then
 (bif decide (i4 < (↑(b.2.1.length) : Int)) then
 (ob (F.f_55 N (b.2.1.getD i4.toNat dSpot).2.2.2.2) [] fun r_1 =>
 bif decide ((x3c1a.length + [((b.2.1.getD i4.toNat dSpot).1, (b.2.1.getD i4.toNat dSpot).2.1, (b.2.1.getD i4.toNat dSpot).2.2.1, (b.2.1.getD i4.toNat dSpot).2.2.2.1, r_1)].length) * 64 ≤ lim) then
 (next (i64.wrap (i4 + 1)) (x3c1a ++ [((b.2.1.getD i4.toNat dSpot).1, (b.2.1.getD i4.toNat dSpot).2.1, (b.2.1.getD i4.toNat dSpot).2.2.1, (b.2.1.getD i4.toNat dSpot).2.2.2.1, r_1)])) else none) else none) else none)
 else
 (I0 b r t2c4 x3c0a x3c1a N 0 [])
def f_71_0 (N : Nat) (b : Book) (r : List Txt) (t2c4 : Int) (x3c0a : List Foe) : Nat → Int → (List Spot) → Option Book := lp (fun _ _ => none) fun next => f_71_0r N (f_71_2 N) b r t2c4 x3c0a next
def f_71b (N : Nat) (I1 : Book → (List Txt) → Int → (List Foe) → Nat → Int → (List Spot) → Option Book) (b : Book) : Option Book :=
 bif decide ((0 + b.1.length) * 32 ≤ lim) then
 (ob (F.f_55 N b.2.2.1) [] fun r =>
 I1 b r 0 ([] ++ b.1) N 0 []) else none
def f_71 (N : Nat) (b : Book) : Option Book := f_71b N (f_71_0 N) b
def f_36 (N : Nat) (b : Book) (number : Int) : Option (Book × Int) :=
 ob (F.f_27 N b) false fun r =>
 bif !r then
 (some (([], [], [], [], 0), 1))
 else
 (ob (F.f_71 N b) dB fun r_1 =>
 ob (F.f_73 N b number) (Int.ofNat 0) fun r_2 =>
 bif decide (r_2 < 0) then
 (some (r_1, 3))
 else
 (bif decide (0 ≤ r_2) then
 (bif decide (r_2 < (↑(r_1.2.2.2.1.length) : Int)) then
 (let t1835as : List Part := List.set r_1.2.2.2.1 r_2.toNat ((r_1.2.2.2.1.getD r_2.toNat dPart).1, true)
 some ((r_1.1, r_1.2.1, r_1.2.2.1, t1835as, r_1.2.2.2.2), 0)) else none) else none))
def f_62_0r (N : Nat) (w : Want) (moved : Int) (next : Int → Option Bool) : Int → Option Bool := fun i5 =>
 bif decide (i5 < (↑(w.2.2.2.1.length) : Int)) then
 (bif decide (0 ≤ i5) then
 (bif decide (i5 < (↑(w.2.2.2.1.length) : Int)) then
 (bif (w.2.2.2.1.getD i5.toNat dUse).2.1 != 3 then
 (bif decide (0 ≤ i5) then
 (bif decide (i5 < (↑(w.2.2.2.1.length) : Int)) then
 (bif decide (moved > (w.2.2.2.1.getD i5.toNat dUse).2.2) then
 (some false)
 else
 (next (i64.wrap (i5 + 1)))) else none) else none)
 else
 (next (i64.wrap (i5 + 1)))) else none) else none)
 else
 (some true)
def f_62_0 (N : Nat) (w : Want) (moved : Int) : Nat → Int → Option Bool := lp (fun _ => none) fun next => f_62_0r N w moved next
def f_62b (N : Nat) (I0 : Want → Int → Nat → Int → Option Bool) (w : Want) (moved : Int) : Option Bool :=
 bif decide (moved < 0) then
 (some false)
 else
 (I0 w moved N 0)
def f_62 (N : Nat) (w : Want) (moved : Int) : Option Bool := f_62b N (f_62_0 N) w moved
def f_53 (N : Nat) (s : Spot) (w : Want) (u : Use) (moved : Int) (done : Bool) : Option Spot :=
 bif u.2.1 == 1 then
 (bif u.2.1 == 2 then
 (bif w.2.1 == 2 then
 (bif done then
 (some (s.1, s.2.1, i64.wrap (i64.wrap (i64.wrap (s.2.2.1 + u.2.2) - moved) + moved), i64.wrap (i64.wrap (i64.wrap (s.2.2.2.1 - moved) - u.2.2) + moved), []))
 else
 (some (s.1, s.2.1, i64.wrap (i64.wrap (i64.wrap (s.2.2.1 + u.2.2) - moved) + moved), i64.wrap (i64.wrap (i64.wrap (s.2.2.2.1 - moved) - u.2.2) + moved), s.2.2.2.2)))
 else
 (some (s.1, s.2.1, i64.wrap (i64.wrap (i64.wrap (s.2.2.1 + u.2.2) - moved) + moved), i64.wrap (i64.wrap (i64.wrap (s.2.2.2.1 - moved) - u.2.2) + moved), s.2.2.2.2)))
 else
 (bif w.2.1 == 2 then
 (bif done then
 (some (s.1, s.2.1, i64.wrap (i64.wrap (s.2.2.1 + u.2.2) - moved), i64.wrap (s.2.2.2.1 - moved), []))
 else
 (some (s.1, s.2.1, i64.wrap (i64.wrap (s.2.2.1 + u.2.2) - moved), i64.wrap (s.2.2.2.1 - moved), s.2.2.2.2)))
 else
 (some (s.1, s.2.1, i64.wrap (i64.wrap (s.2.2.1 + u.2.2) - moved), i64.wrap (s.2.2.2.1 - moved), s.2.2.2.2))))
 else
 (bif u.2.1 == 2 then
 (bif w.2.1 == 2 then
 (bif done then
 (some (s.1, s.2.1, i64.wrap (s.2.2.1 + moved), i64.wrap (i64.wrap (s.2.2.2.1 - u.2.2) + moved), []))
 else
 (some (s.1, s.2.1, i64.wrap (s.2.2.1 + moved), i64.wrap (i64.wrap (s.2.2.2.1 - u.2.2) + moved), s.2.2.2.2)))
 else
 (some (s.1, s.2.1, i64.wrap (s.2.2.1 + moved), i64.wrap (i64.wrap (s.2.2.2.1 - u.2.2) + moved), s.2.2.2.2)))
 else
 (bif w.2.1 == 2 then
 (bif done then
 (some (s.1, s.2.1, s.2.2.1, s.2.2.2.1, []))
 else
 (some s))
 else
 (some s)))
def f_35_0r (N : Nat) (b : Book) (moved : Int) (done : Bool) (r_1 : Book) (r_2 : Int) (t8c4 : Int) (w12c0 : Int) (w12c1 : Int) (w12c2 : List Txt) (w12c3 : List Use) (w12c4 : List Txt) (w12c5 : List Txt) (next : Int → (List Spot) → Option (Book × Int)) : Int → (List Spot) → Option (Book × Int) := fun i13 x10c1a =>
 bif decide (i13 < (↑(w12c3.length) : Int)) then
 (bif decide (0 ≤ i13) then
 (bif decide (i13 < (↑(w12c3.length) : Int)) then
 (ob (F.f_74 N b (w12c3.getD i13.toNat dUse).1) (Int.ofNat 0) fun r_7 =>
 bif decide (0 ≤ r_7) then
 (bif decide (r_7 < (↑x10c1a.length : Int)) then
 (bif decide (0 ≤ i13) then
 (bif decide (i13 < (↑(w12c3.length) : Int)) then
 (ob (F.f_53 N (x10c1a.getD r_7.toNat dSpot) (w12c0, w12c1, w12c2, w12c3, w12c4, w12c5) (w12c3.getD i13.toNat dUse) moved done) dSpot fun r_8 =>
 bif decide (0 ≤ r_7) then
 (bif decide (r_7 < (↑x10c1a.length : Int)) then
 (let x10c1as_1 : List Spot := x10c1a.set r_7.toNat r_8
 next (i64.wrap (i13 + 1)) x10c1as_1) else none) else none) else none) else none) else none) else none) else none) else none)
 else
 (bif decide (0 ≤ r_2) then
 (bif decide (r_2 ≤ (↑(r_1.2.2.2.1.length) : Int)) then
 (bif decide ((0 + (List.drop (Int.toNat 0) (List.take r_2.toNat r_1.2.2.2.1)).length) * 120 ≤ lim) then
 (bif decide (0 ≤ i64.wrap (r_2 + 1)) then
 (bif decide (i64.wrap (r_2 + 1) ≤ (↑(r_1.2.2.2.1.length) : Int)) then
 (bif decide ((↑(r_1.2.2.2.1.length) : Int) ≤ (↑(r_1.2.2.2.1.length) : Int)) then
 (bif decide ((([] ++ List.drop (Int.toNat 0) (List.take r_2.toNat r_1.2.2.2.1)).length + (List.drop (i64.wrap (r_2 + 1)).toNat (List.take (↑(r_1.2.2.2.1.length) : Int).toNat r_1.2.2.2.1)).length) * 120 ≤ lim) then
 (ob (F.f_71 N (r_1.1, x10c1a, r_1.2.2.1, [] ++ List.drop (Int.toNat 0) (List.take r_2.toNat r_1.2.2.2.1) ++ List.drop (i64.wrap (r_2 + 1)).toNat (List.take (↑(r_1.2.2.2.1.length) : Int).toNat r_1.2.2.2.1), r_1.2.2.2.2)) dB fun r_9 =>
 some (r_9, 0)) else none) else none) else none) else none) else none) else none) else none)
def f_35_0 (N : Nat) (b : Book) (moved : Int) (done : Bool) (r_1 : Book) (r_2 : Int) (t8c4 : Int) (w12c0 : Int) (w12c1 : Int) (w12c2 : List Txt) (w12c3 : List Use) (w12c4 : List Txt) (w12c5 : List Txt) : Nat → Int → (List Spot) → Option (Book × Int) := lp (fun _ _ => none) fun next => f_35_0r N b moved done r_1 r_2 t8c4 w12c0 w12c1 w12c2 w12c3 w12c4 w12c5 next
def f_35b (N : Nat) (I0 : Book → Int → Bool → Book → Int → Int → Int → Int → (List Txt) → (List Use) → (List Txt) → (List Txt) → Nat → Int → (List Spot) → Option (Book × Int)) (b : Book) (number : Int) (moved : Int) (done : Bool) : Option (Book × Int) :=
 ob (F.f_27 N b) false fun r =>
 bif !r then
 (some (([], [], [], [], 0), 1))
 else
 (ob (F.f_71 N b) dB fun r_1 =>
 ob (F.f_73 N b number) (Int.ofNat 0) fun r_2 =>
 bif decide (r_2 < 0) then
 (some (r_1, 3))
 else
 (bif decide (0 ≤ r_2) then
 (bif decide (r_2 < (↑(b.2.2.2.1.length) : Int)) then
 (ob (F.f_62 N (b.2.2.2.1.getD r_2.toNat dPart).1 moved) false fun r_3 =>
 bif !r_3 then
 (some (r_1, 2))
 else
 (bif decide (0 ≤ r_2) then
 (bif decide (r_2 < (↑(b.2.2.2.1.length) : Int)) then
 (bif !(b.2.2.2.1.getD r_2.toNat dPart).2 then
 (some (r_1, 12))
 else
 (I0 b moved done r_1 r_2 0 ((b.2.2.2.1.getD r_2.toNat dPart).1.1) ((b.2.2.2.1.getD r_2.toNat dPart).1.2.1) ((b.2.2.2.1.getD r_2.toNat dPart).1.2.2.1) ((b.2.2.2.1.getD r_2.toNat dPart).1.2.2.2.1) ((b.2.2.2.1.getD r_2.toNat dPart).1.2.2.2.2.1) ((b.2.2.2.1.getD r_2.toNat dPart).1.2.2.2.2.2) N 0 r_1.2.1)) else none) else none)) else none) else none))
def f_35 (N : Nat) (b : Book) (number : Int) (moved : Int) (done : Bool) : Option (Book × Int) := f_35b N (f_35_0 N) b number moved done
def f_54_0r (N : Nat) (a : List Txt) (b : List Txt) (next : Int → Option Bool) : Int → Option Bool := fun i5 =>
 bif decide (i5 < (↑a.length : Int)) then
 (bif decide (0 ≤ i5) then
 (bif decide (i5 < (↑a.length : Int)) then
 (bif decide (0 ≤ i5) then
 (bif decide (i5 < (↑b.length : Int)) then
 (bif !a.getD i5.toNat [] == b.getD i5.toNat [] then
 (some false)
 else
 (next (i64.wrap (i5 + 1)))) else none) else none) else none) else none)
 else
 (some true)
def f_54_0 (N : Nat) (a : List Txt) (b : List Txt) : Nat → Int → Option Bool := lp (fun _ => none) fun next => f_54_0r N a b next
def f_54b (N : Nat) (I0 : (List Txt) → (List Txt) → Nat → Int → Option Bool) (a : List Txt) (b : List Txt) : Option Bool :=
 bif (↑a.length : Int) != (↑b.length : Int) then
 (some false)
 else
 (I0 a b N 0)
def f_54 (N : Nat) (a : List Txt) (b : List Txt) : Option Bool := f_54b N (f_54_0 N) a b
def f_69_0r (N : Nat) (a : Want) (b : Want) (next : Int → Option Bool) : Int → Option Bool := fun i5 =>
 bif decide (i5 < (↑(a.2.2.2.1.length) : Int)) then
 (bif decide (0 ≤ i5) then
 (bif decide (i5 < (↑(a.2.2.2.1.length) : Int)) then
 (bif decide (0 ≤ i5) then
 (bif decide (i5 < (↑(b.2.2.2.1.length) : Int)) then
 (bif !((a.2.2.2.1.getD i5.toNat dUse).1 == (b.2.2.2.1.getD i5.toNat dUse).1 && ((a.2.2.2.1.getD i5.toNat dUse).2.1 == (b.2.2.2.1.getD i5.toNat dUse).2.1 && ((a.2.2.2.1.getD i5.toNat dUse).2.2 == (b.2.2.2.1.getD i5.toNat dUse).2.2 && true))) then
 (some false)
 else
 (next (i64.wrap (i5 + 1)))) else none) else none) else none) else none)
 else
 (some true)
def f_69_0 (N : Nat) (a : Want) (b : Want) : Nat → Int → Option Bool := lp (fun _ => none) fun next => f_69_0r N a b next
def f_69b (N : Nat) (I0 : Want → Want → Nat → Int → Option Bool) (a : Want) (b : Want) : Option Bool :=
 bif a.1 != b.1 then
 (some false)
 else
 (bif a.2.1 != b.2.1 then
 (some false)
 else
 (bif (↑(a.2.2.2.1.length) : Int) != (↑(b.2.2.2.1.length) : Int) then
 (some false)
 else
 (ob (F.f_54 N a.2.2.1 b.2.2.1) false fun r =>
 bif !r then
 (some false)
 else
 (ob (F.f_54 N a.2.2.2.2.1 b.2.2.2.2.1) false fun r_1 =>
 bif !r_1 then
 (some false)
 else
 (ob (F.f_54 N a.2.2.2.2.2 b.2.2.2.2.2) false fun r_2 =>
 bif !r_2 then
 (some false)
 else
 (I0 a b N 0))))))
def f_69 (N : Nat) (a : Want) (b : Want) : Option Bool := f_69b N (f_69_0 N) a b
def f_39_0r (N : Nat) (b : Book) (x : List Txt) (y : List Txt) (next : Int → Option Bool) : Int → Option Bool := fun i7 =>
 bif decide (i7 < (↑x.length : Int)) then
 (bif decide (0 ≤ i7) then
 (bif decide (i7 < (↑x.length : Int)) then
 (ob (F.f_58 N b (x.getD i7.toNat []) y) false fun r =>
 bif r then
 (some true)
 else
 (next (i64.wrap (i7 + 1)))) else none) else none)
 else
 (some false)
def f_39_0 (N : Nat) (b : Book) (x : List Txt) (y : List Txt) : Nat → Int → Option Bool := lp (fun _ => none) fun next => f_39_0r N b x y next
def f_39b (N : Nat) (I0 : Book → (List Txt) → (List Txt) → Nat → Int → Option Bool) (b : Book) (x : List Txt) (y : List Txt) : Option Bool :=
 I0 b x y N 0
def f_39 (N : Nat) (b : Book) (x : List Txt) (y : List Txt) : Option Bool := f_39b N (f_39_0 N) b x y
def f_61_0r (N : Nat) (a : List Txt) (b : List Txt) (next : Int → Int → Option Int) : Int → Int → Option Int := fun n5 i6 =>
 bif decide (i6 < (↑b.length : Int)) then
 (bif decide (0 ≤ i6) then
 (bif decide (i6 < (↑b.length : Int)) then
 (ob (F.f_90 N a (b.getD i6.toNat [])) false fun r =>
 bif !r then
 (next (i64.wrap (n5 + 1)) (i64.wrap (i6 + 1)))
 else
 (next n5 (i64.wrap (i6 + 1)))) else none) else none)
 else
 (some n5)
def f_61_0 (N : Nat) (a : List Txt) (b : List Txt) : Nat → Int → Int → Option Int := lp (fun _ _ => none) fun next => f_61_0r N a b next
def f_61b (N : Nat) (I0 : (List Txt) → (List Txt) → Nat → Int → Int → Option Int) (a : List Txt) (b : List Txt) : Option Int :=
 I0 a b N (↑a.length : Int) 0
def f_61 (N : Nat) (a : List Txt) (b : List Txt) : Option Int := f_61b N (f_61_0 N) a b
def f_52_0r (N : Nat) (b : Book) (w : Want) (next : Int → Option Int) : Int → Option Int := fun i5 =>
 bif decide (i5 < (↑(w.2.2.2.1.length) : Int)) then
 (bif w.2.1 == 1 then
 (bif decide (0 ≤ i5) then
 (bif decide (i5 < (↑(w.2.2.2.1.length) : Int)) then
 (ob (F.f_74 N b (w.2.2.2.1.getD i5.toNat dUse).1) (Int.ofNat 0) fun r_1 =>
 bif decide (0 ≤ r_1) then
 (bif decide (r_1 < (↑(b.2.1.length) : Int)) then
 (bif decide (0 ≤ i5) then
 (bif decide (i5 < (↑(w.2.2.2.1.length) : Int)) then
 (bif (w.2.2.2.1.getD i5.toNat dUse).2.1 != 2 then
 (ob (F.f_89 N (b.2.1.getD r_1.toNat dSpot).2.2.2.2 w.2.2.1) false fun r_2 =>
 bif !r_2 then
 (some 8)
 else
 (bif decide (0 ≤ i5) then
 (bif decide (i5 < (↑(w.2.2.2.1.length) : Int)) then
 (bif (w.2.2.2.1.getD i5.toNat dUse).2.1 == 2 then
 (ob (F.f_39 N b w.2.2.1 (b.2.1.getD r_1.toNat dSpot).2.2.2.2) false fun r_3 =>
 bif r_3 then
 (some 8)
 else
 (bif decide (0 ≤ i5) then
 (bif decide (i5 < (↑(w.2.2.2.1.length) : Int)) then
 (bif (w.2.2.2.1.getD i5.toNat dUse).2.1 == 2 then
 (ob (F.f_61 N (b.2.1.getD r_1.toNat dSpot).2.2.2.2 w.2.2.1) (Int.ofNat 0) fun r_4 =>
 bif decide (r_4 > 8) then
 (some 5)
 else
 (next (i64.wrap (i5 + 1))))
 else
 (next (i64.wrap (i5 + 1)))) else none) else none))
 else
 (bif decide (0 ≤ i5) then
 (bif decide (i5 < (↑(w.2.2.2.1.length) : Int)) then
 (bif (w.2.2.2.1.getD i5.toNat dUse).2.1 == 2 then
 (ob (F.f_61 N (b.2.1.getD r_1.toNat dSpot).2.2.2.2 w.2.2.1) (Int.ofNat 0) fun r_5 =>
 bif decide (r_5 > 8) then
 (some 5)
 else
 (next (i64.wrap (i5 + 1))))
 else
 (next (i64.wrap (i5 + 1)))) else none) else none)) else none) else none))
 else
 (bif decide (0 ≤ i5) then
 (bif decide (i5 < (↑(w.2.2.2.1.length) : Int)) then
 (bif (w.2.2.2.1.getD i5.toNat dUse).2.1 == 2 then
 (ob (F.f_39 N b w.2.2.1 (b.2.1.getD r_1.toNat dSpot).2.2.2.2) false fun r_6 =>
 bif r_6 then
 (some 8)
 else
 (bif decide (0 ≤ i5) then
 (bif decide (i5 < (↑(w.2.2.2.1.length) : Int)) then
 (bif (w.2.2.2.1.getD i5.toNat dUse).2.1 == 2 then
 (ob (F.f_61 N (b.2.1.getD r_1.toNat dSpot).2.2.2.2 w.2.2.1) (Int.ofNat 0) fun r_7 =>
 bif decide (r_7 > 8) then
 (some 5)
 else
 (next (i64.wrap (i5 + 1))))
 else
 (next (i64.wrap (i5 + 1)))) else none) else none))
 else
 (bif decide (0 ≤ i5) then
 (bif decide (i5 < (↑(w.2.2.2.1.length) : Int)) then
 (bif (w.2.2.2.1.getD i5.toNat dUse).2.1 == 2 then
 (ob (F.f_61 N (b.2.1.getD r_1.toNat dSpot).2.2.2.2 w.2.2.1) (Int.ofNat 0) fun r_8 =>
 bif decide (r_8 > 8) then
 (some 5)
 else
 (next (i64.wrap (i5 + 1))))
 else
 (next (i64.wrap (i5 + 1)))) else none) else none)) else none) else none)) else none) else none) else none) else none) else none) else none)
 else
 (some 0))
 else
 (some 0)
def f_52_0 (N : Nat) (b : Book) (w : Want) : Nat → Int → Option Int := lp (fun _ => none) fun next => f_52_0r N b w next
def f_52b (N : Nat) (I0 : Book → Want → Nat → Int → Option Int) (b : Book) (w : Want) : Option Int :=
 ob (F.f_39 N b w.2.2.1 w.2.2.1) false fun r =>
 bif r then
 (some 8)
 else
 (I0 b w N 0)
def f_52 (N : Nat) (b : Book) (w : Want) : Option Int := f_52b N (f_52_0 N) b w
def f_42_0r (N : Nat) (b : Book) (w : Want) (next : Int → Option Int) : Int → Option Int := fun i5 =>
 bif decide (i5 < (↑(w.2.2.2.1.length) : Int)) then
 (bif decide (0 ≤ i5) then
 (bif decide (i5 < (↑(w.2.2.2.1.length) : Int)) then
 (ob (F.f_74 N b (w.2.2.2.1.getD i5.toNat dUse).1) (Int.ofNat 0) fun r =>
 bif decide (0 ≤ r) then
 (bif decide (r < (↑(b.2.1.length) : Int)) then
 (bif decide (0 ≤ i5) then
 (bif decide (i5 < (↑(w.2.2.2.1.length) : Int)) then
 (bif (w.2.2.2.1.getD i5.toNat dUse).2.1 == 1 then
 (bif decide ((b.2.1.getD r.toNat dSpot).2.2.1 < (w.2.2.2.1.getD i5.toNat dUse).2.2) then
 (some 9)
 else
 (bif (w.2.2.2.1.getD i5.toNat dUse).2.1 == 2 then
 (bif decide (i64.wrap ((b.2.1.getD r.toNat dSpot).2.2.2.1 + (w.2.2.2.1.getD i5.toNat dUse).2.2) > (b.2.1.getD r.toNat dSpot).2.1) then
 (some 10)
 else
 (bif w.2.1 == 2 then
 (bif decide ((b.2.1.getD r.toNat dSpot).2.2.2.1 > 0) then
 (some 11)
 else
 (next (i64.wrap (i5 + 1))))
 else
 (next (i64.wrap (i5 + 1)))))
 else
 (bif w.2.1 == 2 then
 (bif decide ((b.2.1.getD r.toNat dSpot).2.2.2.1 > 0) then
 (some 11)
 else
 (next (i64.wrap (i5 + 1))))
 else
 (next (i64.wrap (i5 + 1))))))
 else
 (bif (w.2.2.2.1.getD i5.toNat dUse).2.1 == 2 then
 (bif decide (i64.wrap ((b.2.1.getD r.toNat dSpot).2.2.2.1 + (w.2.2.2.1.getD i5.toNat dUse).2.2) > (b.2.1.getD r.toNat dSpot).2.1) then
 (some 10)
 else
 (bif w.2.1 == 2 then
 (bif decide ((b.2.1.getD r.toNat dSpot).2.2.2.1 > 0) then
 (some 11)
 else
 (next (i64.wrap (i5 + 1))))
 else
 (next (i64.wrap (i5 + 1)))))
 else
 (bif w.2.1 == 2 then
 (bif decide ((b.2.1.getD r.toNat dSpot).2.2.2.1 > 0) then
 (some 11)
 else
 (next (i64.wrap (i5 + 1))))
 else
 (next (i64.wrap (i5 + 1)))))) else none) else none) else none) else none) else none) else none)
 else
 (some 0)
def f_42_0 (N : Nat) (b : Book) (w : Want) : Nat → Int → Option Int := lp (fun _ => none) fun next => f_42_0r N b w next
def f_42b (N : Nat) (I0 : Book → Want → Nat → Int → Option Int) (b : Book) (w : Want) : Option Int :=
 I0 b w N 0
def f_42 (N : Nat) (b : Book) (w : Want) : Option Int := f_42b N (f_42_0 N) b w
def f_34_2r (N : Nat) (b : Book) (w : Want) (next : Int → Option Int) : Int → Option Int := fun i7 =>
 bif decide (i7 < (↑(b.2.2.2.1.length) : Int)) then
 (bif decide (0 ≤ i7) then
 (bif decide (i7 < (↑(b.2.2.2.1.length) : Int)) then
 (ob (F.f_40 N w (b.2.2.2.1.getD i7.toNat dPart).1) false fun r_8 =>
 bif r_8 then
 (some 7)
 else
 (next (i64.wrap (i7 + 1)))) else none) else none)
 else
 (ob (F.f_52 N b w) (Int.ofNat 0) fun r_9 =>
 bif r_9 != 0 then
 (some r_9)
 else
 (ob (F.f_42 N b w) (Int.ofNat 0) fun r_10 =>
 some r_10))
def f_34_2 (N : Nat) (b : Book) (w : Want) : Nat → Int → Option Int := lp (fun _ => none) fun next => f_34_2r N b w next
def f_34_0r (N : Nat) (I0 : Book → Want → Nat → Int → Option Int) (b : Book) (w : Want) (next : Int → Option Int) : Int → Option Int := fun i6 =>
 bif decide (i6 < (↑(b.2.2.2.1.length) : Int)) then
 (ob (F.f_75 N w) [] fun r_5 =>
 bif decide (0 ≤ i6) then
 (bif decide (i6 < (↑(b.2.2.2.1.length) : Int)) then
 (ob (F.f_75 N (b.2.2.2.1.getD i6.toNat dPart).1) [] fun r_6 =>
 ob (F.f_57 N r_5 r_6) false fun r_7 =>
 bif r_7 then
 (some 6)
 else
 (next (i64.wrap (i6 + 1)))) else none) else none)
 else
 (I0 b w N 0)
def f_34_0 (N : Nat) (b : Book) (w : Want) : Nat → Int → Option Int := lp (fun _ => none) fun next => f_34_0r N (f_34_2 N) b w next
def f_34b (N : Nat) (I1 : Book → Want → Nat → Int → Option Int) (b : Book) (w : Want) : Option Int :=
 ob (F.f_27 N b) false fun r =>
 bif !r then
 (some 1)
 else
 (ob (F.f_28 N w) false fun r_1 =>
 bif !r_1 then
 (some 2)
 else
 (ob (F.f_59 N b w) false fun r_2 =>
 bif !r_2 then
 (some 2)
 else
 (ob (F.f_73 N b w.1) (Int.ofNat 0) fun r_3 =>
 bif decide (r_3 ≥ 0) then
 (bif decide (0 ≤ r_3) then
 (bif decide (r_3 < (↑(b.2.2.2.1.length) : Int)) then
 (ob (F.f_69 N (b.2.2.2.1.getD r_3.toNat dPart).1 w) false fun r_4 =>
 bif r_4 then
 (some 0)
 else
 (some 3)) else none) else none)
 else
 (bif decide (w.1 ≤ b.2.2.2.2) then
 (some 4)
 else
 (bif decide ((↑(b.2.2.2.1.length) : Int) ≥ 6) then
 (some 5)
 else
 (I1 b w N 0))))))
def f_34 (N : Nat) (b : Book) (w : Want) : Option Int := f_34b N (f_34_0 N) b w
def f_91_2r (N : Nat) (nx0 : Int → (List Spot) → Option Book) (b0 : List Foe) (b2 : List Txt) (b3 : List Part) (b4 : Int) (w : Want) (t4c4 : Int) (i5 : Int) (r_4 : Int) (u6c0_1 : Txt) (u6c1_1 : Int) (u6c2_1 : Int) (next : Int → (List Spot) → Option Book) : Int → (List Spot) → Option Book := fun n8_1 b2c1a_2 =>
 bif decide (n8_1 < (↑(w.2.2.1.length) : Int)) then
 (bif u6c1_1 != 1 then
 (bif decide (0 ≤ r_4) then
 (bif decide (r_4 < (↑b2c1a_2.length : Int)) then
 (bif decide (0 ≤ n8_1) then
 (bif decide (n8_1 < (↑(w.2.2.1.length) : Int)) then
 (ob (F.f_51 N (b2c1a_2.getD r_4.toNat dSpot).2.2.2.2 (w.2.2.1.getD n8_1.toNat [])) [] fun r_5 =>
 bif decide (0 ≤ r_4) then
 (bif decide (r_4 < (↑b2c1a_2.length : Int)) then
 (let b2c1as_7 : List Spot := b2c1a_2.set r_4.toNat ((b2c1a_2.getD r_4.toNat dSpot).1, (b2c1a_2.getD r_4.toNat dSpot).2.1, (b2c1a_2.getD r_4.toNat dSpot).2.2.1, (b2c1a_2.getD r_4.toNat dSpot).2.2.2.1, r_5)
 next (i64.wrap (n8_1 + 1)) b2c1as_7) else none) else none) else none) else none) else none) else none)
 else
 (nx0 (i64.wrap (i5 + 1)) b2c1a_2))
 else
 (nx0 (i64.wrap (i5 + 1)) b2c1a_2)
def f_91_2 (N : Nat) (nx0 : Int → (List Spot) → Option Book) (b0 : List Foe) (b2 : List Txt) (b3 : List Part) (b4 : Int) (w : Want) (t4c4 : Int) (i5 : Int) (r_4 : Int) (u6c0_1 : Txt) (u6c1_1 : Int) (u6c2_1 : Int) : Nat → Int → (List Spot) → Option Book := lp (fun _ _ => none) fun next => f_91_2r N nx0 b0 b2 b3 b4 w t4c4 i5 r_4 u6c0_1 u6c1_1 u6c2_1 next
def f_91_0r (N : Nat) (I0 : Int → Int → Txt → Int → Int → Nat → Int → (List Spot) → Option Book) (b0 : List Foe) (b2 : List Txt) (b3 : List Part) (b4 : Int) (w : Want) (t4c4 : Int) (next : Int → (List Spot) → Option Book) : Int → (List Spot) → Option Book := fun i5 b2c1a =>
 bif decide (i5 < (↑(w.2.2.2.1.length) : Int)) then
 (bif decide (0 ≤ i5) then
 (bif decide (i5 < (↑(w.2.2.2.1.length) : Int)) then
 (ob (F.f_74 N (b0, b2c1a, b2, b3, b4) (w.2.2.2.1.getD i5.toNat dUse).1) (Int.ofNat 0) fun r_4 =>
 bif (w.2.2.2.1.getD i5.toNat dUse).2.1 == 1 then
 (bif decide (0 ≤ r_4) then
 (bif decide (r_4 < (↑b2c1a.length : Int)) then
 (bif decide (0 ≤ r_4) then
 (bif decide (r_4 < (↑b2c1a.length : Int)) then
 (let b2c1as_5 : List Spot := b2c1a.set r_4.toNat ((b2c1a.getD r_4.toNat dSpot).1, (b2c1a.getD r_4.toNat dSpot).2.1, i64.wrap ((b2c1a.getD r_4.toNat dSpot).2.2.1 - (w.2.2.2.1.getD i5.toNat dUse).2.2), (b2c1a.getD r_4.toNat dSpot).2.2.2)
 bif (w.2.2.2.1.getD i5.toNat dUse).2.1 == 2 then
 (bif decide (0 ≤ r_4) then
 (bif decide (r_4 < (↑b2c1as_5.length : Int)) then
 (bif decide (0 ≤ r_4) then
 (bif decide (r_4 < (↑b2c1as_5.length : Int)) then
 (let b2c1as_6 : List Spot := b2c1as_5.set r_4.toNat ((b2c1as_5.getD r_4.toNat dSpot).1, (b2c1as_5.getD r_4.toNat dSpot).2.1, (b2c1as_5.getD r_4.toNat dSpot).2.2.1, i64.wrap ((b2c1as_5.getD r_4.toNat dSpot).2.2.2.1 + (w.2.2.2.1.getD i5.toNat dUse).2.2), (b2c1as_5.getD r_4.toNat dSpot).2.2.2.2)
 I0 i5 r_4 ((w.2.2.2.1.getD i5.toNat dUse).1) ((w.2.2.2.1.getD i5.toNat dUse).2.1) ((w.2.2.2.1.getD i5.toNat dUse).2.2) N 0 b2c1as_6) else none) else none) else none) else none)
 else
 (I0 i5 r_4 ((w.2.2.2.1.getD i5.toNat dUse).1) ((w.2.2.2.1.getD i5.toNat dUse).2.1) ((w.2.2.2.1.getD i5.toNat dUse).2.2) N 0 b2c1as_5)) else none) else none) else none) else none)
 else
 (bif (w.2.2.2.1.getD i5.toNat dUse).2.1 == 2 then
 (bif decide (0 ≤ r_4) then
 (bif decide (r_4 < (↑b2c1a.length : Int)) then
 (bif decide (0 ≤ r_4) then
 (bif decide (r_4 < (↑b2c1a.length : Int)) then
 (let b2c1as_8 : List Spot := b2c1a.set r_4.toNat ((b2c1a.getD r_4.toNat dSpot).1, (b2c1a.getD r_4.toNat dSpot).2.1, (b2c1a.getD r_4.toNat dSpot).2.2.1, i64.wrap ((b2c1a.getD r_4.toNat dSpot).2.2.2.1 + (w.2.2.2.1.getD i5.toNat dUse).2.2), (b2c1a.getD r_4.toNat dSpot).2.2.2.2)
 I0 i5 r_4 ((w.2.2.2.1.getD i5.toNat dUse).1) ((w.2.2.2.1.getD i5.toNat dUse).2.1) ((w.2.2.2.1.getD i5.toNat dUse).2.2) N 0 b2c1as_8) else none) else none) else none) else none)
 else
 (I0 i5 r_4 ((w.2.2.2.1.getD i5.toNat dUse).1) ((w.2.2.2.1.getD i5.toNat dUse).2.1) ((w.2.2.2.1.getD i5.toNat dUse).2.2) N 0 b2c1a))) else none) else none)
 else
 (ob (F.f_70 N w) dWant fun r_6 =>
 bif decide ((b3.length + [(r_6, false)].length) * 120 ≤ lim) then
 (some (b0, b2c1a, b2, b3 ++ [(r_6, false)], b4)) else none)
def f_91_0 (N : Nat) (b0 : List Foe) (b2 : List Txt) (b3 : List Part) (b4 : Int) (w : Want) (t4c4 : Int) : Nat → Int → (List Spot) → Option Book := lp (fun _ _ => none) fun next => f_91_0r N (f_91_2 N next b0 b2 b3 b4 w t4c4) b0 b2 b3 b4 w t4c4 next
def f_91b (N : Nat) (I1 : (List Foe) → (List Txt) → (List Part) → Int → Want → Int → Nat → Int → (List Spot) → Option Book) (b0 : List Foe) (b1 : List Spot) (b2 : List Txt) (b3 : List Part) (b4 : Int) (w : Want) : Option Book :=
 I1 b0 b2 b3 b4 w 0 N 0 b1
def f_91 (N : Nat) (b0 : List Foe) (b1 : List Spot) (b2 : List Txt) (b3 : List Part) (b4 : Int) (w : Want) : Option Book := f_91b N (f_91_0 N) b0 b1 b2 b3 b4 w
def f_30 (N : Nat) (b : Book) (w : Want) : Option (Book × Int) :=
 ob (F.f_34 N b w) (Int.ofNat 0) fun r =>
 bif r == 1 then
 (some (([], [], [], [], 0), 1))
 else
 (ob (F.f_71 N b) dB fun r_1 =>
 ob (F.f_95 N r 2 4) false fun r_2 =>
 bif r_2 then
 (some (r_1, r))
 else
 (ob (F.f_73 N b w.1) (Int.ofNat 0) fun r_3 =>
 bif decide (r_3 ≥ 0) then
 (some (r_1, r))
 else
 (bif r == 0 then
 (ob (F.f_91 N r_1.1 r_1.2.1 r_1.2.2.1 r_1.2.2.2.1 w.1 w) dB fun r_4 =>
 ob (F.f_71 N r_4) dB fun r_5 =>
 some (r_5, r))
 else
 (ob (F.f_71 N (r_1.1, r_1.2.1, r_1.2.2.1, r_1.2.2.2.1, w.1)) dB fun r_6 =>
 some (r_6, r)))))
def f_81 (N : Nat) (b : Book) (d : Do) : Option Book :=
 bif decide (d.2.1 > 0) then
 (ob (F.f_36 N b d.2.1) (dB, Int.ofNat 0) fun r =>
 some r.1)
 else
 (bif decide (d.2.2.1 > 0) then
 (ob (F.f_35 N b d.2.2.1 d.2.2.2.1 d.2.2.2.2) (dB, Int.ofNat 0) fun r_1 =>
 some r_1.1)
 else
 (ob (F.f_30 N b d.1) (dB, Int.ofNat 0) fun r_2 =>
 some r_2.1))
def f_77_0r (N : Nat) (t2c4 : Int) (next : Int → (List Int) → Int → (List Foe) → (List Spot) → (List Txt) → (List Part) → Int → Option (Book × Rdr)) : Int → (List Int) → Int → (List Foe) → (List Spot) → (List Txt) → (List Part) → Int → Option (Book × Rdr) := fun n4 rpc0 rpc1 b3c0 b3c1 b3c2 b3c3 b3c4 =>
 bif decide (n4 > 0) then
 (ob (F.f_78 N (rpc0, rpc1) (b3c0, b3c1, b3c2, b3c3, b3c4)) ((dWant, Int.ofNat 0, Int.ofNat 0, Int.ofNat 0, false), [], Int.ofNat 0) fun r_5 =>
 ob (F.f_81 N (b3c0, b3c1, b3c2, b3c3, b3c4) r_5.1) dB fun r_6 =>
 next (i64.wrap (n4 - 1)) r_5.2.1 r_5.2.2 r_6.1 r_6.2.1 r_6.2.2.1 r_6.2.2.2.1 r_6.2.2.2.2)
 else
 (some ((b3c0, b3c1, b3c2, b3c3, b3c4), rpc0, rpc1))
def f_77_0 (N : Nat) (t2c4 : Int) : Nat → Int → (List Int) → Int → (List Foe) → (List Spot) → (List Txt) → (List Part) → Int → Option (Book × Rdr) := lp (fun _ _ _ _ _ _ _ _ => none) fun next => f_77_0r N t2c4 next
def f_77b (N : Nat) (I0 : Int → Nat → Int → (List Int) → Int → (List Foe) → (List Spot) → (List Txt) → (List Part) → Int → Option (Book × Rdr)) (r : Rdr) : Option (Book × Rdr) :=
 ob (F.f_76 N r) (dB, [], Int.ofNat 0) fun r_1 =>
 ob (F.f_38 N r_1.2 24) dR fun r_2 =>
 I0 0 N r_2.1 r_2.2.1 r_2.2.2 r_1.1.1 r_1.1.2.1 r_1.1.2.2.1 r_1.1.2.2.2.1 r_1.1.2.2.2.2
def f_77 (N : Nat) (r : Rdr) : Option (Book × Rdr) := f_77b N (f_77_0 N) r
def f_64 (N : Nat) (r : Rdr) (b : Book) : Option (Book × Rdr) :=
 ob (F.f_71 N b) dB fun r_1 =>
 ob (F.f_38 N r 6) dR fun r_2 =>
 bif r_2.1 == 0 then
 (ob (F.f_56 N r_2.2 [[97, 108, 101], [119, 97, 116, 101, 114], []]) ([], [], Int.ofNat 0) fun r_3 =>
 ob (F.f_56 N r_3.2 [[97, 108, 101], [122, 122]]) ([], [], Int.ofNat 0) fun r_4 =>
 bif decide ((List.length r_1.1 + 1) * 32 ≤ lim) then
 (some ((r_1.1 ++ [(r_3.1, r_4.1)], r_1.2), r_4.2)) else none)
 else
 (bif r_2.1 == 1 then
 (ob (F.f_38 N r_2.2 4) dR fun r_5 =>
 bif decide (0 ≤ r_5.1) then
 (bif decide (r_5.1 < (↑[-1, 0, 1000000, 1000001].length : Int)) then
 (some ((r_1.1, r_1.2.1, r_1.2.2.1, r_1.2.2.2.1, [-1, 0, 1000000, 1000001].getD r_5.1.toNat (Int.ofNat 0)), r_5.2)) else none) else none)
 else
 (bif r_2.1 == 2 then
 (ob (F.f_56 N r_2.2 [[], [97], [122, 122]]) ([], [], Int.ofNat 0) fun r_6 =>
 bif decide ((List.length r_1.2.2.1 + 1) * 16 ≤ lim) then
 (some ((r_1.1, r_1.2.1, r_1.2.2.1 ++ [r_6.1], r_1.2.2.2), r_6.2)) else none)
 else
 (bif r_2.1 == 3 then
 (bif decide ((↑(r_1.2.1.length) : Int) > 0) then
 (ob (F.f_38 N r_2.2 (↑(r_1.2.1.length) : Int)) dR fun r_7 =>
 ob (F.f_38 N r_7.2 5) dR fun r_8 =>
 bif r_8.1 == 0 then
 (ob (F.f_56 N r_8.2 [[], [75], [122, 122], [97]]) ([], [], Int.ofNat 0) fun r_9 =>
 bif decide (0 ≤ r_7.1) then
 (bif decide (r_7.1 < (↑(r_1.2.1.length) : Int)) then
 (let t1577as : List Spot := List.set r_1.2.1 r_7.1.toNat (r_9.1, (r_1.2.1.getD r_7.1.toNat dSpot).2)
 some ((r_1.1, t1577as, r_1.2.2), r_9.2)) else none) else none)
 else
 (bif r_8.1 == 1 then
 (ob (F.f_38 N r_8.2 4) dR fun r_10 =>
 bif decide (0 ≤ r_10.1) then
 (bif decide (r_10.1 < (↑[-1, 0, 1000, 1001].length : Int)) then
 (bif decide (0 ≤ r_7.1) then
 (bif decide (r_7.1 < (↑(r_1.2.1.length) : Int)) then
 (let t1577as_1 : List Spot := List.set r_1.2.1 r_7.1.toNat ((r_1.2.1.getD r_7.1.toNat dSpot).1, [-1, 0, 1000, 1001].getD r_10.1.toNat (Int.ofNat 0), (r_1.2.1.getD r_7.1.toNat dSpot).2.2)
 some ((r_1.1, t1577as_1, r_1.2.2), r_10.2)) else none) else none) else none) else none)
 else
 (bif r_8.1 == 2 then
 (bif decide (0 ≤ r_7.1) then
 (bif decide (r_7.1 < (↑(r_1.2.1.length) : Int)) then
 (ob (F.f_38 N r_8.2 5) dR fun r_11 =>
 bif decide (0 ≤ r_7.1) then
 (bif decide (r_7.1 < (↑(r_1.2.1.length) : Int)) then
 (let t1577as_2 : List Spot := List.set r_1.2.1 r_7.1.toNat ((r_1.2.1.getD r_7.1.toNat dSpot).1, (r_1.2.1.getD r_7.1.toNat dSpot).2.1, i64.wrap (i64.wrap ((r_1.2.1.getD r_7.1.toNat dSpot).2.2.1 + r_11.1) - 2), (r_1.2.1.getD r_7.1.toNat dSpot).2.2.2)
 some ((r_1.1, t1577as_2, r_1.2.2), r_11.2)) else none) else none) else none) else none)
 else
 (bif r_8.1 == 3 then
 (bif decide (0 ≤ r_7.1) then
 (bif decide (r_7.1 < (↑(r_1.2.1.length) : Int)) then
 (ob (F.f_38 N r_8.2 5) dR fun r_12 =>
 bif decide (0 ≤ r_7.1) then
 (bif decide (r_7.1 < (↑(r_1.2.1.length) : Int)) then
 (let t1577as_3 : List Spot := List.set r_1.2.1 r_7.1.toNat ((r_1.2.1.getD r_7.1.toNat dSpot).1, (r_1.2.1.getD r_7.1.toNat dSpot).2.1, (r_1.2.1.getD r_7.1.toNat dSpot).2.2.1, i64.wrap (i64.wrap ((r_1.2.1.getD r_7.1.toNat dSpot).2.2.2.1 + r_12.1) - 2), (r_1.2.1.getD r_7.1.toNat dSpot).2.2.2.2)
 some ((r_1.1, t1577as_3, r_1.2.2), r_12.2)) else none) else none) else none) else none)
 else
 (bif decide (0 ≤ r_7.1) then
 (bif decide (r_7.1 < (↑(r_1.2.1.length) : Int)) then
 (let t1577as_4 : List Spot := List.set r_1.2.1 r_7.1.toNat ((r_1.2.1.getD r_7.1.toNat dSpot).1, (r_1.2.1.getD r_7.1.toNat dSpot).2.1, (r_1.2.1.getD r_7.1.toNat dSpot).2.2.1, (r_1.2.1.getD r_7.1.toNat dSpot).2.2.2.1, [])
 ob (F.f_56 N r_8.2 [[97, 108, 101], [108, 121, 101], [122, 122], []]) ([], [], Int.ofNat 0) fun r_13 =>
 bif decide ((List.length (r_1.2.1.getD r_7.1.toNat dSpot).2.2.2.2 + 1) * 16 ≤ lim) then
 (bif decide (0 ≤ r_7.1) then
 (bif decide (r_7.1 < (↑t1577as_4.length : Int)) then
 (bif decide (r_7.1 = r_7.1) && decide (([(5, 4)], 101).1 = [(5, 4)]) then
 (let t1577as_5 : List Spot := t1577as_4.set r_7.1.toNat ((t1577as_4.getD r_7.1.toNat dSpot).1, (t1577as_4.getD r_7.1.toNat dSpot).2.1, (t1577as_4.getD r_7.1.toNat dSpot).2.2.1, (t1577as_4.getD r_7.1.toNat dSpot).2.2.2.1, (r_1.2.1.getD r_7.1.toNat dSpot).2.2.2.2 ++ [r_13.1])
 some ((r_1.1, t1577as_5, r_1.2.2), r_13.2)) else none) else none) else none) else none) else none) else none)))))
 else
 (some (r_1, r_2.2)))
 else
 (bif r_2.1 == 4 then
 (bif decide ((↑(r_1.2.1.length) : Int) > 0) then
 (ob (F.f_38 N r_2.2 (↑(r_1.2.1.length) : Int)) dR fun r_14 =>
 ob (F.f_38 N r_14.2 5) dR fun r_15 =>
 bif r_15.1 == 0 then
 (ob (F.f_56 N r_15.2 [[], [75], [122, 122], [97]]) ([], [], Int.ofNat 0) fun r_16 =>
 bif decide (0 ≤ r_14.1) then
 (bif decide (r_14.1 < (↑(r_1.2.1.length) : Int)) then
 (let t1577as_6 : List Spot := List.set r_1.2.1 r_14.1.toNat (r_16.1, (r_1.2.1.getD r_14.1.toNat dSpot).2)
 some ((r_1.1, t1577as_6, r_1.2.2), r_16.2)) else none) else none)
 else
 (bif r_15.1 == 1 then
 (ob (F.f_38 N r_15.2 4) dR fun r_17 =>
 bif decide (0 ≤ r_17.1) then
 (bif decide (r_17.1 < (↑[-1, 0, 1000, 1001].length : Int)) then
 (bif decide (0 ≤ r_14.1) then
 (bif decide (r_14.1 < (↑(r_1.2.1.length) : Int)) then
 (let t1577as_7 : List Spot := List.set r_1.2.1 r_14.1.toNat ((r_1.2.1.getD r_14.1.toNat dSpot).1, [-1, 0, 1000, 1001].getD r_17.1.toNat (Int.ofNat 0), (r_1.2.1.getD r_14.1.toNat dSpot).2.2)
 some ((r_1.1, t1577as_7, r_1.2.2), r_17.2)) else none) else none) else none) else none)
 else
 (bif r_15.1 == 2 then
 (bif decide (0 ≤ r_14.1) then
 (bif decide (r_14.1 < (↑(r_1.2.1.length) : Int)) then
 (ob (F.f_38 N r_15.2 5) dR fun r_18 =>
 bif decide (0 ≤ r_14.1) then
 (bif decide (r_14.1 < (↑(r_1.2.1.length) : Int)) then
 (let t1577as_8 : List Spot := List.set r_1.2.1 r_14.1.toNat ((r_1.2.1.getD r_14.1.toNat dSpot).1, (r_1.2.1.getD r_14.1.toNat dSpot).2.1, i64.wrap (i64.wrap ((r_1.2.1.getD r_14.1.toNat dSpot).2.2.1 + r_18.1) - 2), (r_1.2.1.getD r_14.1.toNat dSpot).2.2.2)
 some ((r_1.1, t1577as_8, r_1.2.2), r_18.2)) else none) else none) else none) else none)
 else
 (bif r_15.1 == 3 then
 (bif decide (0 ≤ r_14.1) then
 (bif decide (r_14.1 < (↑(r_1.2.1.length) : Int)) then
 (ob (F.f_38 N r_15.2 5) dR fun r_19 =>
 bif decide (0 ≤ r_14.1) then
 (bif decide (r_14.1 < (↑(r_1.2.1.length) : Int)) then
 (let t1577as_9 : List Spot := List.set r_1.2.1 r_14.1.toNat ((r_1.2.1.getD r_14.1.toNat dSpot).1, (r_1.2.1.getD r_14.1.toNat dSpot).2.1, (r_1.2.1.getD r_14.1.toNat dSpot).2.2.1, i64.wrap (i64.wrap ((r_1.2.1.getD r_14.1.toNat dSpot).2.2.2.1 + r_19.1) - 2), (r_1.2.1.getD r_14.1.toNat dSpot).2.2.2.2)
 some ((r_1.1, t1577as_9, r_1.2.2), r_19.2)) else none) else none) else none) else none)
 else
 (bif decide (0 ≤ r_14.1) then
 (bif decide (r_14.1 < (↑(r_1.2.1.length) : Int)) then
 (let t1577as_10 : List Spot := List.set r_1.2.1 r_14.1.toNat ((r_1.2.1.getD r_14.1.toNat dSpot).1, (r_1.2.1.getD r_14.1.toNat dSpot).2.1, (r_1.2.1.getD r_14.1.toNat dSpot).2.2.1, (r_1.2.1.getD r_14.1.toNat dSpot).2.2.2.1, [])
 ob (F.f_56 N r_15.2 [[97, 108, 101], [108, 121, 101], [122, 122], []]) ([], [], Int.ofNat 0) fun r_20 =>
 bif decide ((List.length (r_1.2.1.getD r_14.1.toNat dSpot).2.2.2.2 + 1) * 16 ≤ lim) then
 (bif decide (0 ≤ r_14.1) then
 (bif decide (r_14.1 < (↑t1577as_10.length : Int)) then
 (bif decide (r_14.1 = r_14.1) && decide (([(5, 4)], 101).1 = [(5, 4)]) then
 (let t1577as_11 : List Spot := t1577as_10.set r_14.1.toNat ((t1577as_10.getD r_14.1.toNat dSpot).1, (t1577as_10.getD r_14.1.toNat dSpot).2.1, (t1577as_10.getD r_14.1.toNat dSpot).2.2.1, (t1577as_10.getD r_14.1.toNat dSpot).2.2.2.1, (r_1.2.1.getD r_14.1.toNat dSpot).2.2.2.2 ++ [r_20.1])
 some ((r_1.1, t1577as_11, r_1.2.2), r_20.2)) else none) else none) else none) else none) else none) else none)))))
 else
 (some (r_1, r_2.2)))
 else
 (bif decide ((↑(r_1.2.2.2.1.length) : Int) > 0) then
 (ob (F.f_38 N r_2.2 (↑(r_1.2.2.2.1.length) : Int)) dR fun r_21 =>
 ob (F.f_38 N r_21.2 2) dR fun r_22 =>
 bif r_22.1 == 0 then
 (bif decide (0 ≤ r_21.1) then
 (bif decide (r_21.1 < (↑(r_1.2.2.2.1.length) : Int)) then
 (bif decide ((List.length r_1.2.2.2.1 + 1) * 120 ≤ lim) then
 (some ((r_1.1, r_1.2.1, r_1.2.2.1, r_1.2.2.2.1 ++ [r_1.2.2.2.1.getD r_21.1.toNat dPart], r_1.2.2.2.2), r_22.2)) else none) else none) else none)
 else
 (bif decide (0 ≤ r_21.1) then
 (bif decide (r_21.1 < (↑(r_1.2.2.2.1.length) : Int)) then
 (ob (F.f_29 N r_22.2 (r_1.2.2.2.1.getD r_21.1.toNat dPart).1) (dWant, [], Int.ofNat 0) fun r_23 =>
 bif decide (0 ≤ r_21.1) then
 (bif decide (r_21.1 < (↑(r_1.2.2.2.1.length) : Int)) then
 (let t1579as : List Part := List.set r_1.2.2.2.1 r_21.1.toNat (r_23.1, (r_1.2.2.2.1.getD r_21.1.toNat dPart).2)
 some ((r_1.1, r_1.2.1, r_1.2.2.1, t1579as, r_1.2.2.2.2), r_23.2)) else none) else none) else none) else none))
 else
 (some (r_1, r_2.2)))))))
def f_92 (N : Nat) (r : Rdr) : Option (Book × Rdr) :=
 ob (F.f_77 N r) (dB, [], Int.ofNat 0) fun r_1 =>
 ob (F.f_38 N r_1.2 20) dR fun r_2 =>
 bif r_2.1 == 0 then
 (ob (F.f_64 N r_2.2 r_1.1) (dB, [], Int.ofNat 0) fun r_3 =>
 some r_3)
 else
 (some (r_1.1, r_2.2))
def f_22 (N : Nat) (code : List Int) : Option (Book × Int × Int × Bool) :=
 bif decide ((↑code.length : Int) > 2000) then
 (bif decide (2000 ≤ (↑(code.length) : Int)) then
 (ob (F.f_92 N (List.drop (Int.toNat 0) (List.take (Int.toNat 2000) code), 0)) (dB, [], Int.ofNat 0) fun r =>
 ob (F.f_96 N r.2 r.1) dR fun r_1 =>
 ob (F.f_38 N r_1.2 4) dR fun r_2 =>
 bif decide (r_2.1 > 0) then
 (ob (F.f_36 N r.1 r_1.1) (dB, Int.ofNat 0) fun r_3 =>
 bif r_3.2 == 0 then
 (ob (F.f_63 N r_2.2 r_3.1 r_1.1) dR fun r_4 =>
 ob (F.f_38 N r_4.2 3) dR fun r_5 =>
 some (r_3.1, r_1.1, r_4.1, decide (r_5.1 > 0)))
 else
 (ob (F.f_63 N r_2.2 r.1 r_1.1) dR fun r_6 =>
 ob (F.f_38 N r_6.2 3) dR fun r_7 =>
 some (r.1, r_1.1, r_6.1, decide (r_7.1 > 0))))
 else
 (ob (F.f_63 N r_2.2 r.1 r_1.1) dR fun r_8 =>
 ob (F.f_38 N r_8.2 3) dR fun r_9 =>
 some (r.1, r_1.1, r_8.1, decide (r_9.1 > 0)))) else none)
 else
 (ob (F.f_92 N (code, 0)) (dB, [], Int.ofNat 0) fun r_10 =>
 ob (F.f_96 N r_10.2 r_10.1) dR fun r_11 =>
 ob (F.f_38 N r_11.2 4) dR fun r_12 =>
 bif decide (r_12.1 > 0) then
 (ob (F.f_36 N r_10.1 r_11.1) (dB, Int.ofNat 0) fun r_13 =>
 bif r_13.2 == 0 then
 (ob (F.f_63 N r_12.2 r_13.1 r_11.1) dR fun r_14 =>
 ob (F.f_38 N r_14.2 3) dR fun r_15 =>
 some (r_13.1, r_11.1, r_14.1, decide (r_15.1 > 0)))
 else
 (ob (F.f_63 N r_12.2 r_10.1 r_11.1) dR fun r_16 =>
 ob (F.f_38 N r_16.2 3) dR fun r_17 =>
 some (r_10.1, r_11.1, r_16.1, decide (r_17.1 > 0))))
 else
 (ob (F.f_63 N r_12.2 r_10.1 r_11.1) dR fun r_18 =>
 ob (F.f_38 N r_18.2 3) dR fun r_19 =>
 some (r_10.1, r_11.1, r_18.1, decide (r_19.1 > 0))))
def f_97 (N : Nat) (n : Int) (low : Int) (high : Int) : Option Bool :=
 bif decide (n ≥ low) then
 (some (decide (n ≤ high)))
 else
 (some false)
def f_94_0r (N : Nat) (s : Txt) (next : Int → Option Bool) : Int → Option Bool := fun i3 =>
 bif decide (i3 < (↑s.length : Int)) then
 (bif decide (0 ≤ i3) then
 (bif decide (i3 < (↑s.length : Int)) then
 (bif decide ((↑(s.getD i3.toNat 0).toNat : Int) ≥ 97) then
 (bif decide ((↑(s.getD i3.toNat 0).toNat : Int) ≤ 122) then
 (next (i64.wrap (i3 + 1)))
 else
 (bif decide ((↑(s.getD i3.toNat 0).toNat : Int) ≥ 48) then
 (bif decide ((↑(s.getD i3.toNat 0).toNat : Int) ≤ 57) then
 (next (i64.wrap (i3 + 1)))
 else
 (bif !(↑(s.getD i3.toNat 0).toNat : Int) == 45 then
 (some false)
 else
 (next (i64.wrap (i3 + 1)))))
 else
 (bif !(↑(s.getD i3.toNat 0).toNat : Int) == 45 then
 (some false)
 else
 (next (i64.wrap (i3 + 1))))))
 else
 (bif decide ((↑(s.getD i3.toNat 0).toNat : Int) ≥ 48) then
 (bif decide ((↑(s.getD i3.toNat 0).toNat : Int) ≤ 57) then
 (next (i64.wrap (i3 + 1)))
 else
 (bif !(↑(s.getD i3.toNat 0).toNat : Int) == 45 then
 (some false)
 else
 (next (i64.wrap (i3 + 1)))))
 else
 (bif !(↑(s.getD i3.toNat 0).toNat : Int) == 45 then
 (some false)
 else
 (next (i64.wrap (i3 + 1)))))) else none) else none)
 else
 (some true)
def f_94_0 (N : Nat) (s : Txt) : Nat → Int → Option Bool := lp (fun _ => none) fun next => f_94_0r N s next
def f_94b (N : Nat) (I0 : Txt → Nat → Int → Option Bool) (s : Txt) : Option Bool :=
 ob (F.f_97 N (↑s.length : Int) 1 8) false fun r =>
 bif !r then
 (some false)
 else
 (I0 s N 0)
def f_94 (N : Nat) (s : Txt) : Option Bool := f_94b N (f_94_0 N) s
def f_83_0r (N : Nat) (l : List Txt) (t12 : Int) (next : Int → Option Bool) : Int → Option Bool := fun t13 =>
 bif decide (t13 < t12) then
 (bif decide (0 ≤ t13) then
 (bif decide (t13 < (↑l.length : Int)) then
 (ob (F.f_94 N (l.getD t13.toNat [])) false fun r =>
 bif !r then
 (some false)
 else
 (bif decide (t13 > 0) then
 (bif decide (0 ≤ i64.wrap (t13 - 1)) then
 (bif decide (i64.wrap (t13 - 1) < (↑l.length : Int)) then
 (bif !Op.bytesLess (l.getD (i64.wrap (t13 - 1)).toNat []) (l.getD t13.toNat []) then
 (some false)
 else
 (next (i64.wrap (t13 + 1)))) else none) else none)
 else
 (next (i64.wrap (t13 + 1))))) else none) else none)
 else
 (some true)
def f_83_0 (N : Nat) (l : List Txt) (t12 : Int) : Nat → Int → Option Bool := lp (fun _ => none) fun next => f_83_0r N l t12 next
def f_83b (N : Nat) (I0 : (List Txt) → Int → Nat → Int → Option Bool) (l : List Txt) (most : Int) : Option Bool :=
 bif decide ((↑l.length : Int) > most) then
 (some false)
 else
 (I0 l (↑l.length : Int) N 0)
def f_83 (N : Nat) (l : List Txt) (most : Int) : Option Bool := f_83b N (f_83_0 N) l most
def f_19 (N : Nat) (f : Foe) (g : Foe) : Option Bool :=
 bif Op.bytesLess f.1 g.1 then
 (some true)
 else
 (bif f.1 == g.1 then
 (some (Op.bytesLess f.2 g.2))
 else
 (some false))
def f_21_0r (N : Nat) (s : List Txt) (v : Txt) (t7 : Int) (next : Int → Option Int) : Int → Option Int := fun t8 =>
 bif decide (t8 < t7) then
 (bif decide (0 ≤ t8) then
 (bif decide (t8 < (↑s.length : Int)) then
 (bif v == s.getD t8.toNat [] then
 (some t8)
 else
 (next (i64.wrap (t8 + 1)))) else none) else none)
 else
 (some (-1))
def f_21_0 (N : Nat) (s : List Txt) (v : Txt) (t7 : Int) : Nat → Int → Option Int := lp (fun _ => none) fun next => f_21_0r N s v t7 next
def f_21b (N : Nat) (I0 : (List Txt) → Txt → Int → Nat → Int → Option Int) (s : List Txt) (v : Txt) : Option Int :=
 I0 s v (↑s.length : Int) N 0
def f_21 (N : Nat) (s : List Txt) (v : Txt) : Option Int := f_21b N (f_21_0 N) s v
def f_11 (N : Nat) (s : List Txt) (v : Txt) : Option Bool :=
 ob (F.f_21 N s v) (Int.ofNat 0) fun r =>
 some (decide (r ≥ 0))
def f_17_0r (N : Nat) (b : Book) (x : List Txt) (y : List Txt) (t11 : Int) (next : Int → Option Bool) : Int → Option Bool := fun t12 =>
 bif decide (t12 < t11) then
 (bif decide (0 ≤ t12) then
 (bif decide (t12 < (↑(b.1.length) : Int)) then
 (ob (F.f_11 N x (b.1.getD t12.toNat dFoe).1) false fun r =>
 bif r then
 (ob (F.f_11 N y (b.1.getD t12.toNat dFoe).2) false fun r_1 =>
 bif r_1 then
 (some true)
 else
 (ob (F.f_11 N x (b.1.getD t12.toNat dFoe).2) false fun r_2 =>
 bif r_2 then
 (ob (F.f_11 N y (b.1.getD t12.toNat dFoe).1) false fun r_3 =>
 bif r_3 then
 (some true)
 else
 (next (i64.wrap (t12 + 1))))
 else
 (next (i64.wrap (t12 + 1)))))
 else
 (ob (F.f_11 N x (b.1.getD t12.toNat dFoe).2) false fun r_4 =>
 bif r_4 then
 (ob (F.f_11 N y (b.1.getD t12.toNat dFoe).1) false fun r_5 =>
 bif r_5 then
 (some true)
 else
 (next (i64.wrap (t12 + 1))))
 else
 (next (i64.wrap (t12 + 1))))) else none) else none)
 else
 (some false)
def f_17_0 (N : Nat) (b : Book) (x : List Txt) (y : List Txt) (t11 : Int) : Nat → Int → Option Bool := lp (fun _ => none) fun next => f_17_0r N b x y t11 next
def f_17b (N : Nat) (I0 : Book → (List Txt) → (List Txt) → Int → Nat → Int → Option Bool) (b : Book) (x : List Txt) (y : List Txt) : Option Bool :=
 I0 b x y (↑(b.1.length) : Int) N 0
def f_17 (N : Nat) (b : Book) (x : List Txt) (y : List Txt) : Option Bool := f_17b N (f_17_0 N) b x y
def f_32 (N : Nat) (s : Txt) (p1 : List Txt) : Option (Bool × List Txt) :=
 ob (F.f_11 N p1 s) false fun r =>
 some (r, p1)
def f_8_0r (N : Nat) (s : List Txt) (t7 : Int) (next : Int → (List Txt) → Option (Int × List Txt)) : Int → (List Txt) → Option (Int × List Txt) := fun t8 fpc0 =>
 bif decide (t8 < t7) then
 (bif decide (0 ≤ t8) then
 (bif decide (t8 < (↑s.length : Int)) then
 (ob (F.f_32 N (s.getD t8.toNat []) fpc0) (false, []) fun r_1 =>
 bif r_1.1 then
 (some (t8, r_1.2))
 else
 (next (i64.wrap (t8 + 1)) r_1.2)) else none) else none)
 else
 (some (-1, fpc0))
def f_8_0 (N : Nat) (s : List Txt) (t7 : Int) : Nat → Int → (List Txt) → Option (Int × List Txt) := lp (fun _ _ => none) fun next => f_8_0r N s t7 next
def f_8b (N : Nat) (I0 : (List Txt) → Int → Nat → Int → (List Txt) → Option (Int × List Txt)) (s : List Txt) (p1 : List Txt) : Option (Int × List Txt) :=
 I0 s (↑s.length : Int) N 0 p1
def f_8 (N : Nat) (s : List Txt) (p1 : List Txt) : Option (Int × List Txt) := f_8b N (f_8_0 N) s p1
def f_5 (N : Nat) (s : List Txt) (p1 : List Txt) : Option (Bool × List Txt) :=
 ob (F.f_8 N s p1) (Int.ofNat 0, []) fun r =>
 some (decide (r.1 ≥ 0), r.2)
def f_65 (N : Nat) (a : List Txt) (b : List Txt) : Option Bool :=
 ob (F.f_5 N a b) (false, []) fun r =>
 some r.1
def f_25_0r (N : Nat) (w : Want) (move3 : Bool) (t41 : Int) (next : Int → Option Bool) : Int → Option Bool := fun t42 =>
 bif decide (t42 < t41) then
 (bif decide (0 ≤ t42) then
 (bif decide (t42 < (↑(w.2.2.2.1.length) : Int)) then
 (ob (F.f_94 N (w.2.2.2.1.getD t42.toNat dUse).1) false fun r_3 =>
 bif !r_3 then
 (some false)
 else
 (bif decide (t42 > 0) then
 (bif decide (0 ≤ i64.wrap (t42 - 1)) then
 (bif decide (i64.wrap (t42 - 1) < (↑(w.2.2.2.1.length) : Int)) then
 (bif !Op.bytesLess (w.2.2.2.1.getD (i64.wrap (t42 - 1)).toNat dUse).1 (w.2.2.2.1.getD t42.toNat dUse).1 then
 (some false)
 else
 (ob (F.f_97 N (w.2.2.2.1.getD t42.toNat dUse).2.1 1 3) false fun r_4 =>
 bif !r_4 then
 (some false)
 else
 (bif (w.2.2.2.1.getD t42.toNat dUse).2.1 == 3 then
 (bif (w.2.2.2.1.getD t42.toNat dUse).2.2 != 0 then
 (some false)
 else
 (next (i64.wrap (t42 + 1))))
 else
 (bif !move3 then
 (some false)
 else
 (ob (F.f_97 N (w.2.2.2.1.getD t42.toNat dUse).2.2 1 1000) false fun r_5 =>
 bif !r_5 then
 (some false)
 else
 (next (i64.wrap (t42 + 1)))))))) else none) else none)
 else
 (ob (F.f_97 N (w.2.2.2.1.getD t42.toNat dUse).2.1 1 3) false fun r_6 =>
 bif !r_6 then
 (some false)
 else
 (bif (w.2.2.2.1.getD t42.toNat dUse).2.1 == 3 then
 (bif (w.2.2.2.1.getD t42.toNat dUse).2.2 != 0 then
 (some false)
 else
 (next (i64.wrap (t42 + 1))))
 else
 (bif !move3 then
 (some false)
 else
 (ob (F.f_97 N (w.2.2.2.1.getD t42.toNat dUse).2.2 1 1000) false fun r_7 =>
 bif !r_7 then
 (some false)
 else
 (next (i64.wrap (t42 + 1))))))))) else none) else none)
 else
 (ob (F.f_83 N w.2.2.2.2.1 12) false fun r_8 =>
 bif !r_8 then
 (some false)
 else
 (ob (F.f_83 N w.2.2.2.2.2 12) false fun r_9 =>
 bif !r_9 then
 (some false)
 else
 (ob (F.f_65 N w.2.2.2.2.1 w.2.2.2.2.2) false fun r_10 =>
 bif r_10 then
 (some false)
 else
 (bif !move3 then
 (bif decide ((↑(w.2.2.2.2.1.length) : Int) > 0) then
 (some false)
 else
 (some (decide (i64.wrap (i64.wrap ((↑(w.2.2.2.1.length) : Int) + (↑(w.2.2.2.2.1.length) : Int)) + (↑(w.2.2.2.2.2.length) : Int)) > 0))))
 else
 (some (decide (i64.wrap (i64.wrap ((↑(w.2.2.2.1.length) : Int) + (↑(w.2.2.2.2.1.length) : Int)) + (↑(w.2.2.2.2.2.length) : Int)) > 0)))))))
def f_25_0 (N : Nat) (w : Want) (move3 : Bool) (t41 : Int) : Nat → Int → Option Bool := lp (fun _ => none) fun next => f_25_0r N w move3 t41 next
def f_25b (N : Nat) (I0 : Want → Bool → Int → Nat → Int → Option Bool) (w : Want) : Option Bool :=
 ob (F.f_97 N w.1 1 1000000) false fun r =>
 bif !r then
 (some false)
 else
 (ob (F.f_97 N w.2.1 1 3) false fun r_1 =>
 bif !r_1 then
 (some false)
 else
 (ob (F.f_83 N w.2.2.1 8) false fun r_2 =>
 bif !r_2 then
 (some false)
 else
 (bif !(w.2.1 == 1) == decide ((↑(w.2.2.1.length) : Int) > 0) then
 (some false)
 else
 (bif decide ((↑(w.2.2.2.1.length) : Int) > 8) then
 (some false)
 else
 (I0 w (w.2.1 == 1) (↑(w.2.2.2.1.length) : Int) N 0)))))
def f_25 (N : Nat) (w : Want) : Option Bool := f_25b N (f_25_0 N) w
def f_15 (N : Nat) (s : Spot) (p1 : Txt) : Option (Bool × Txt) :=
 some (s.1 == p1, p1)
def f_1_0r (N : Nat) (s : List Spot) (t7 : Int) (next : Int → Txt → Option (Int × Txt)) : Int → Txt → Option (Int × Txt) := fun t8 fpc0 =>
 bif decide (t8 < t7) then
 (bif decide (0 ≤ t8) then
 (bif decide (t8 < (↑s.length : Int)) then
 (ob (F.f_15 N (s.getD t8.toNat dSpot) fpc0) (false, []) fun r_1 =>
 bif r_1.1 then
 (some (t8, r_1.2))
 else
 (next (i64.wrap (t8 + 1)) r_1.2)) else none) else none)
 else
 (some (-1, fpc0))
def f_1_0 (N : Nat) (s : List Spot) (t7 : Int) : Nat → Int → Txt → Option (Int × Txt) := lp (fun _ _ => none) fun next => f_1_0r N s t7 next
def f_1b (N : Nat) (I0 : (List Spot) → Int → Nat → Int → Txt → Option (Int × Txt)) (s : List Spot) (p1 : Txt) : Option (Int × Txt) :=
 I0 s (↑s.length : Int) N 0 p1
def f_1 (N : Nat) (s : List Spot) (p1 : Txt) : Option (Int × Txt) := f_1b N (f_1_0 N) s p1
def f_23 (N : Nat) (b : Book) (n : Txt) : Option Int :=
 ob (F.f_1 N b.2.1 n) (Int.ofNat 0, []) fun r =>
 some r.1
def f_33 (N : Nat) (s : Txt) (p1 : List Txt) : Option (Bool × List Txt) :=
 ob (F.f_11 N p1 s) false fun r =>
 some (!r, p1)
def f_9_0r (N : Nat) (s : List Txt) (t7 : Int) (next : Int → (List Txt) → Option (Int × List Txt)) : Int → (List Txt) → Option (Int × List Txt) := fun t8 fpc0 =>
 bif decide (t8 < t7) then
 (bif decide (0 ≤ t8) then
 (bif decide (t8 < (↑s.length : Int)) then
 (ob (F.f_33 N (s.getD t8.toNat []) fpc0) (false, []) fun r_1 =>
 bif r_1.1 then
 (some (t8, r_1.2))
 else
 (next (i64.wrap (t8 + 1)) r_1.2)) else none) else none)
 else
 (some (-1, fpc0))
def f_9_0 (N : Nat) (s : List Txt) (t7 : Int) : Nat → Int → (List Txt) → Option (Int × List Txt) := lp (fun _ _ => none) fun next => f_9_0r N s t7 next
def f_9b (N : Nat) (I0 : (List Txt) → Int → Nat → Int → (List Txt) → Option (Int × List Txt)) (s : List Txt) (p1 : List Txt) : Option (Int × List Txt) :=
 I0 s (↑s.length : Int) N 0 p1
def f_9 (N : Nat) (s : List Txt) (p1 : List Txt) : Option (Int × List Txt) := f_9b N (f_9_0 N) s p1
def f_6 (N : Nat) (s : List Txt) (p1 : List Txt) : Option (Bool × List Txt) :=
 ob (F.f_9 N s p1) (Int.ofNat 0, []) fun r =>
 some (decide (r.1 ≥ 0), r.2)
def f_66 (N : Nat) (a : List Txt) (b : List Txt) : Option Bool :=
 ob (F.f_6 N a b) (false, []) fun r =>
 some (!r.1)
def f_16_0r (N : Nat) (b : Book) (w : Want) (t9 : Int) (next : Int → Option Bool) : Int → Option Bool := fun t10 =>
 bif decide (t10 < t9) then
 (bif decide (0 ≤ t10) then
 (bif decide (t10 < (↑(w.2.2.2.1.length) : Int)) then
 (ob (F.f_23 N b (w.2.2.2.1.getD t10.toNat dUse).1) (Int.ofNat 0) fun r =>
 bif decide (r < 0) then
 (some false)
 else
 (next (i64.wrap (t10 + 1)))) else none) else none)
 else
 (ob (F.f_66 N w.2.2.2.2.1 b.2.2.1) false fun r_1 =>
 bif r_1 then
 (ob (F.f_66 N w.2.2.2.2.2 b.2.2.1) false fun r_2 =>
 some r_2)
 else
 (some false))
def f_16_0 (N : Nat) (b : Book) (w : Want) (t9 : Int) : Nat → Int → Option Bool := lp (fun _ => none) fun next => f_16_0r N b w t9 next
def f_16b (N : Nat) (I0 : Book → Want → Int → Nat → Int → Option Bool) (b : Book) (w : Want) : Option Bool :=
 I0 b w (↑(w.2.2.2.1.length) : Int) N 0
def f_16 (N : Nat) (b : Book) (w : Want) : Option Bool := f_16b N (f_16_0 N) b w
def f_12_0r (N : Nat) (b : Book) (p : Part) (t29 : Int) (next : Int → Option Bool) : Int → Option Bool := fun t30 =>
 bif decide (t30 < t29) then
 (bif decide (0 ≤ t30) then
 (bif decide (t30 < (↑(p.1.2.2.2.1.length) : Int)) then
 (ob (F.f_23 N b (p.1.2.2.2.1.getD t30.toNat dUse).1) (Int.ofNat 0) fun r_2 =>
 bif decide (0 ≤ r_2) then
 (bif decide (r_2 < (↑(b.2.1.length) : Int)) then
 (bif decide (i64.wrap ((b.2.1.getD r_2.toNat dSpot).2.2.1 + (p.1.2.2.2.1.getD t30.toNat dUse).2.2) > (b.2.1.getD r_2.toNat dSpot).2.2.2.1) then
 (some false)
 else
 (bif p.1.2.1 == 2 then
 (bif (b.2.1.getD r_2.toNat dSpot).2.2.2.1 != 0 then
 (some false)
 else
 (bif p.1.2.1 == 1 then
 (bif (p.1.2.2.2.1.getD t30.toNat dUse).2.1 != 2 then
 (ob (F.f_66 N (b.2.1.getD r_2.toNat dSpot).2.2.2.2 p.1.2.2.1) false fun r_3 =>
 bif !r_3 then
 (some false)
 else
 (bif (p.1.2.2.2.1.getD t30.toNat dUse).2.1 != 1 then
 (ob (F.f_66 N p.1.2.2.1 (b.2.1.getD r_2.toNat dSpot).2.2.2.2) false fun r_4 =>
 bif !r_4 then
 (some false)
 else
 (next (i64.wrap (t30 + 1))))
 else
 (next (i64.wrap (t30 + 1)))))
 else
 (bif (p.1.2.2.2.1.getD t30.toNat dUse).2.1 != 1 then
 (ob (F.f_66 N p.1.2.2.1 (b.2.1.getD r_2.toNat dSpot).2.2.2.2) false fun r_5 =>
 bif !r_5 then
 (some false)
 else
 (next (i64.wrap (t30 + 1))))
 else
 (next (i64.wrap (t30 + 1)))))
 else
 (next (i64.wrap (t30 + 1)))))
 else
 (bif p.1.2.1 == 1 then
 (bif (p.1.2.2.2.1.getD t30.toNat dUse).2.1 != 2 then
 (ob (F.f_66 N (b.2.1.getD r_2.toNat dSpot).2.2.2.2 p.1.2.2.1) false fun r_6 =>
 bif !r_6 then
 (some false)
 else
 (bif (p.1.2.2.2.1.getD t30.toNat dUse).2.1 != 1 then
 (ob (F.f_66 N p.1.2.2.1 (b.2.1.getD r_2.toNat dSpot).2.2.2.2) false fun r_7 =>
 bif !r_7 then
 (some false)
 else
 (next (i64.wrap (t30 + 1))))
 else
 (next (i64.wrap (t30 + 1)))))
 else
 (bif (p.1.2.2.2.1.getD t30.toNat dUse).2.1 != 1 then
 (ob (F.f_66 N p.1.2.2.1 (b.2.1.getD r_2.toNat dSpot).2.2.2.2) false fun r_8 =>
 bif !r_8 then
 (some false)
 else
 (next (i64.wrap (t30 + 1))))
 else
 (next (i64.wrap (t30 + 1)))))
 else
 (next (i64.wrap (t30 + 1)))))) else none) else none) else none) else none)
 else
 (some true)
def f_12_0 (N : Nat) (b : Book) (p : Part) (t29 : Int) : Nat → Int → Option Bool := lp (fun _ => none) fun next => f_12_0r N b p t29 next
def f_12b (N : Nat) (I0 : Book → Part → Int → Nat → Int → Option Bool) (b : Book) (p : Part) : Option Bool :=
 bif decide (p.1.1 > b.2.2.2.2) then
 (some false)
 else
 (ob (F.f_25 N p.1) false fun r =>
 bif !r then
 (some false)
 else
 (ob (F.f_16 N b p.1) false fun r_1 =>
 bif !r_1 then
 (some false)
 else
 (I0 b p (↑(p.1.2.2.2.1.length) : Int) N 0)))
def f_12 (N : Nat) (b : Book) (p : Part) : Option Bool := f_12b N (f_12_0 N) b p
def f_26 (N : Nat) (v : Use) (p1 : Use) : Option (Bool × Use) :=
 some (p1.1 == v.1, p1)
def f_4_0r (N : Nat) (s : List Use) (t7 : Int) (next : Int → Txt → Int → Int → Option (Int × Use)) : Int → Txt → Int → Int → Option (Int × Use) := fun t8 fpc0 fpc1 fpc2 =>
 bif decide (t8 < t7) then
 (bif decide (0 ≤ t8) then
 (bif decide (t8 < (↑s.length : Int)) then
 (ob (F.f_26 N (s.getD t8.toNat dUse) (fpc0, fpc1, fpc2)) (false, [], Int.ofNat 0, Int.ofNat 0) fun r_1 =>
 bif r_1.1 then
 (some (t8, r_1.2))
 else
 (next (i64.wrap (t8 + 1)) r_1.2.1 r_1.2.2.1 r_1.2.2.2)) else none) else none)
 else
 (some (-1, fpc0, fpc1, fpc2))
def f_4_0 (N : Nat) (s : List Use) (t7 : Int) : Nat → Int → Txt → Int → Int → Option (Int × Use) := lp (fun _ _ _ _ => none) fun next => f_4_0r N s t7 next
def f_4b (N : Nat) (I0 : (List Use) → Int → Nat → Int → Txt → Int → Int → Option (Int × Use)) (s : List Use) (p1 : Use) : Option (Int × Use) :=
 I0 s (↑s.length : Int) N 0 p1.1 p1.2.1 p1.2.2
def f_4 (N : Nat) (s : List Use) (p1 : Use) : Option (Int × Use) := f_4b N (f_4_0 N) s p1
def f_2 (N : Nat) (s : List Use) (p1 : Use) : Option (Bool × Use) :=
 ob (F.f_4 N s p1) (Int.ofNat 0, [], Int.ofNat 0, Int.ofNat 0) fun r =>
 some (decide (r.1 ≥ 0), r.2)
def f_45 (N : Nat) (u : Use) (p1 : Want) : Option (Bool × Want) :=
 ob (F.f_2 N p1.2.2.2.1 u) (false, [], Int.ofNat 0, Int.ofNat 0) fun r =>
 some (r.1, p1)
def f_7_0r (N : Nat) (s : List Use) (t7 : Int) (next : Int → Int → Int → (List Txt) → (List Use) → (List Txt) → (List Txt) → Option (Int × Want)) : Int → Int → Int → (List Txt) → (List Use) → (List Txt) → (List Txt) → Option (Int × Want) := fun t8 fpc0 fpc1 fpc2 fpc3 fpc4 fpc5 =>
 bif decide (t8 < t7) then
 (bif decide (0 ≤ t8) then
 (bif decide (t8 < (↑s.length : Int)) then
 (ob (F.f_45 N (s.getD t8.toNat dUse) (fpc0, fpc1, fpc2, fpc3, fpc4, fpc5)) (false, Int.ofNat 0, Int.ofNat 0, [], [], [], []) fun r_1 =>
 bif r_1.1 then
 (some (t8, r_1.2))
 else
 (next (i64.wrap (t8 + 1)) r_1.2.1 r_1.2.2.1 r_1.2.2.2.1 r_1.2.2.2.2.1 r_1.2.2.2.2.2.1 r_1.2.2.2.2.2.2)) else none) else none)
 else
 (some (-1, fpc0, fpc1, fpc2, fpc3, fpc4, fpc5))
def f_7_0 (N : Nat) (s : List Use) (t7 : Int) : Nat → Int → Int → Int → (List Txt) → (List Use) → (List Txt) → (List Txt) → Option (Int × Want) := lp (fun _ _ _ _ _ _ _ => none) fun next => f_7_0r N s t7 next
def f_7b (N : Nat) (I0 : (List Use) → Int → Nat → Int → Int → Int → (List Txt) → (List Use) → (List Txt) → (List Txt) → Option (Int × Want)) (s : List Use) (p1 : Want) : Option (Int × Want) :=
 I0 s (↑s.length : Int) N 0 p1.1 p1.2.1 p1.2.2.1 p1.2.2.2.1 p1.2.2.2.2.1 p1.2.2.2.2.2
def f_7 (N : Nat) (s : List Use) (p1 : Want) : Option (Int × Want) := f_7b N (f_7_0 N) s p1
def f_3 (N : Nat) (s : List Use) (p1 : Want) : Option (Bool × Want) :=
 ob (F.f_7 N s p1) (Int.ofNat 0, Int.ofNat 0, Int.ofNat 0, [], [], [], []) fun r =>
 some (decide (r.1 ≥ 0), r.2)
def f_84 (N : Nat) (a : Want) (b : Want) : Option Bool :=
 ob (F.f_3 N a.2.2.2.1 b) (false, Int.ofNat 0, Int.ofNat 0, [], [], [], []) fun r =>
 some r.1
def f_82 (N : Nat) (a : Want) (b : Want) : Option Bool :=
 ob (F.f_65 N a.2.2.2.2.1 b.2.2.2.2.1) false fun r =>
 bif r then
 (some true)
 else
 (ob (F.f_65 N a.2.2.2.2.1 b.2.2.2.2.2) false fun r_1 =>
 bif r_1 then
 (some true)
 else
 (ob (F.f_65 N a.2.2.2.2.2 b.2.2.2.2.1) false fun r_2 =>
 some r_2))
def f_24_6r (N : Nat) (nx4 : Int → Option Bool) (b : Book) (t150 : Int) (t151 : Int) (t181 : List Part) (t182 : Int) (p8c0 : Int) (p8c1 : Int) (p8c2 : List Txt) (p8c3 : List Use) (p8c4 : List Txt) (p8c5 : List Txt) (p8c6 : Bool) (next : Int → Option Bool) : Int → Option Bool := fun t183 =>
 bif decide (t183 < t182) then
 (bif decide (0 ≤ t183) then
 (bif decide (t183 < (↑(t181.length) : Int)) then
 (ob (F.f_84 N (p8c0, p8c1, p8c2, p8c3, p8c4, p8c5) (t181.getD t183.toNat dPart).1) false fun r_13 =>
 bif r_13 then
 (some false)
 else
 (ob (F.f_82 N (p8c0, p8c1, p8c2, p8c3, p8c4, p8c5) (t181.getD t183.toNat dPart).1) false fun r_14 =>
 bif r_14 then
 (some false)
 else
 (next (i64.wrap (t183 + 1))))) else none) else none)
 else
 (nx4 (i64.wrap (t151 + 1)))
def f_24_6 (N : Nat) (nx4 : Int → Option Bool) (b : Book) (t150 : Int) (t151 : Int) (t181 : List Part) (t182 : Int) (p8c0 : Int) (p8c1 : Int) (p8c2 : List Txt) (p8c3 : List Use) (p8c4 : List Txt) (p8c5 : List Txt) (p8c6 : Bool) : Nat → Int → Option Bool := lp (fun _ => none) fun next => f_24_6r N nx4 b t150 t151 t181 t182 p8c0 p8c1 p8c2 p8c3 p8c4 p8c5 p8c6 next
def f_24_4r (N : Nat) (I0 : Int → (List Part) → Int → Int → Int → (List Txt) → (List Use) → (List Txt) → (List Txt) → Bool → Nat → Int → Option Bool) (b : Book) (t150 : Int) (next : Int → Option Bool) : Int → Option Bool := fun t151 =>
 bif decide (t151 < t150) then
 (bif decide (0 ≤ t151) then
 (bif decide (t151 < (↑(b.2.2.2.1.length) : Int)) then
 (bif decide (t151 > 0) then
 (bif decide (0 ≤ i64.wrap (t151 - 1)) then
 (bif decide (i64.wrap (t151 - 1) < (↑(b.2.2.2.1.length) : Int)) then
 (bif decide ((b.2.2.2.1.getD (i64.wrap (t151 - 1)).toNat dPart).1.1 ≥ (b.2.2.2.1.getD t151.toNat dPart).1.1) then
 (some false)
 else
 (ob (F.f_12 N b (b.2.2.2.1.getD t151.toNat dPart)) false fun r_12 =>
 bif !r_12 then
 (some false)
 else
 (bif decide (0 ≤ t151) then
 (bif decide (t151 ≤ (↑(b.2.2.2.1.length) : Int)) then
 (I0 t151 (List.drop (Int.toNat 0) (List.take t151.toNat b.2.2.2.1)) (↑(List.drop (Int.toNat 0) (List.take t151.toNat b.2.2.2.1)).length : Int) ((b.2.2.2.1.getD t151.toNat dPart).1.1) ((b.2.2.2.1.getD t151.toNat dPart).1.2.1) ((b.2.2.2.1.getD t151.toNat dPart).1.2.2.1) ((b.2.2.2.1.getD t151.toNat dPart).1.2.2.2.1) ((b.2.2.2.1.getD t151.toNat dPart).1.2.2.2.2.1) ((b.2.2.2.1.getD t151.toNat dPart).1.2.2.2.2.2) ((b.2.2.2.1.getD t151.toNat dPart).2) N 0) else none) else none))) else none) else none)
 else
 (ob (F.f_12 N b (b.2.2.2.1.getD t151.toNat dPart)) false fun r_15 =>
 bif !r_15 then
 (some false)
 else
 (bif decide (0 ≤ t151) then
 (bif decide (t151 ≤ (↑(b.2.2.2.1.length) : Int)) then
 (I0 t151 (List.drop (Int.toNat 0) (List.take t151.toNat b.2.2.2.1)) (↑(List.drop (Int.toNat 0) (List.take t151.toNat b.2.2.2.1)).length : Int) ((b.2.2.2.1.getD t151.toNat dPart).1.1) ((b.2.2.2.1.getD t151.toNat dPart).1.2.1) ((b.2.2.2.1.getD t151.toNat dPart).1.2.2.1) ((b.2.2.2.1.getD t151.toNat dPart).1.2.2.2.1) ((b.2.2.2.1.getD t151.toNat dPart).1.2.2.2.2.1) ((b.2.2.2.1.getD t151.toNat dPart).1.2.2.2.2.2) ((b.2.2.2.1.getD t151.toNat dPart).2) N 0) else none) else none))) else none) else none)
 else
 (some true)
def f_24_4 (N : Nat) (b : Book) (t150 : Int) : Nat → Int → Option Bool := lp (fun _ => none) fun next => f_24_4r N (f_24_6 N next b t150) b t150 next
def f_24_2r (N : Nat) (I1 : Book → Int → Nat → Int → Option Bool) (b : Book) (t82 : Int) (next : Int → Option Bool) : Int → Option Bool := fun t83 =>
 bif decide (t83 < t82) then
 (bif decide (0 ≤ t83) then
 (bif decide (t83 < (↑(b.2.1.length) : Int)) then
 (ob (F.f_94 N (b.2.1.getD t83.toNat dSpot).1) false fun r_5 =>
 bif !r_5 then
 (some false)
 else
 (bif decide (t83 > 0) then
 (bif decide (0 ≤ i64.wrap (t83 - 1)) then
 (bif decide (i64.wrap (t83 - 1) < (↑(b.2.1.length) : Int)) then
 (bif !Op.bytesLess (b.2.1.getD (i64.wrap (t83 - 1)).toNat dSpot).1 (b.2.1.getD t83.toNat dSpot).1 then
 (some false)
 else
 (ob (F.f_97 N (b.2.1.getD t83.toNat dSpot).2.1 0 1000) false fun r_6 =>
 bif !r_6 then
 (some false)
 else
 (bif decide ((b.2.1.getD t83.toNat dSpot).2.2.1 < 0) then
 (some false)
 else
 (bif decide ((b.2.1.getD t83.toNat dSpot).2.2.1 > (b.2.1.getD t83.toNat dSpot).2.2.2.1) then
 (some false)
 else
 (bif decide ((b.2.1.getD t83.toNat dSpot).2.2.2.1 > (b.2.1.getD t83.toNat dSpot).2.1) then
 (some false)
 else
 (ob (F.f_83 N (b.2.1.getD t83.toNat dSpot).2.2.2.2 8) false fun r_7 =>
 bif !r_7 then
 (some false)
 else
 (ob (F.f_17 N b (b.2.1.getD t83.toNat dSpot).2.2.2.2 (b.2.1.getD t83.toNat dSpot).2.2.2.2) false fun r_8 =>
 bif r_8 then
 (some false)
 else
 (next (i64.wrap (t83 + 1)))))))))) else none) else none)
 else
 (ob (F.f_97 N (b.2.1.getD t83.toNat dSpot).2.1 0 1000) false fun r_9 =>
 bif !r_9 then
 (some false)
 else
 (bif decide ((b.2.1.getD t83.toNat dSpot).2.2.1 < 0) then
 (some false)
 else
 (bif decide ((b.2.1.getD t83.toNat dSpot).2.2.1 > (b.2.1.getD t83.toNat dSpot).2.2.2.1) then
 (some false)
 else
 (bif decide ((b.2.1.getD t83.toNat dSpot).2.2.2.1 > (b.2.1.getD t83.toNat dSpot).2.1) then
 (some false)
 else
 (ob (F.f_83 N (b.2.1.getD t83.toNat dSpot).2.2.2.2 8) false fun r_10 =>
 bif !r_10 then
 (some false)
 else
 (ob (F.f_17 N b (b.2.1.getD t83.toNat dSpot).2.2.2.2 (b.2.1.getD t83.toNat dSpot).2.2.2.2) false fun r_11 =>
 bif r_11 then
 (some false)
 else
 (next (i64.wrap (t83 + 1))))))))))) else none) else none)
 else
 (I1 b (↑(b.2.2.2.1.length) : Int) N 0)
def f_24_2 (N : Nat) (b : Book) (t82 : Int) : Nat → Int → Option Bool := lp (fun _ => none) fun next => f_24_2r N (f_24_4 N) b t82 next
def f_24_0r (N : Nat) (I2 : Book → Int → Nat → Int → Option Bool) (b : Book) (t41 : Int) (next : Int → Option Bool) : Int → Option Bool := fun t42 =>
 bif decide (t42 < t41) then
 (bif decide (0 ≤ t42) then
 (bif decide (t42 < (↑(b.1.length) : Int)) then
 (ob (F.f_94 N (b.1.getD t42.toNat dFoe).1) false fun r_2 =>
 bif !r_2 then
 (some false)
 else
 (ob (F.f_94 N (b.1.getD t42.toNat dFoe).2) false fun r_3 =>
 bif !r_3 then
 (some false)
 else
 (bif !Op.bytesLess (b.1.getD t42.toNat dFoe).1 (b.1.getD t42.toNat dFoe).2 then
 (some false)
 else
 (bif decide (t42 > 0) then
 (bif decide (0 ≤ i64.wrap (t42 - 1)) then
 (bif decide (i64.wrap (t42 - 1) < (↑(b.1.length) : Int)) then
 (ob (F.f_19 N (b.1.getD (i64.wrap (t42 - 1)).toNat dFoe) (b.1.getD t42.toNat dFoe)) false fun r_4 =>
 bif !r_4 then
 (some false)
 else
 (next (i64.wrap (t42 + 1)))) else none) else none)
 else
 (next (i64.wrap (t42 + 1))))))) else none) else none)
 else
 (I2 b (↑(b.2.1.length) : Int) N 0)
def f_24_0 (N : Nat) (b : Book) (t41 : Int) : Nat → Int → Option Bool := lp (fun _ => none) fun next => f_24_0r N (f_24_2 N) b t41 next
def f_24b (N : Nat) (I3 : Book → Int → Nat → Int → Option Bool) (b : Book) : Option Bool :=
 bif decide ((↑(b.1.length) : Int) > 12) then
 (some false)
 else
 (bif decide ((↑(b.2.1.length) : Int) > 8) then
 (some false)
 else
 (bif decide ((↑(b.2.2.2.1.length) : Int) > 6) then
 (some false)
 else
 (ob (F.f_83 N b.2.2.1 12) false fun r =>
 bif !r then
 (some false)
 else
 (ob (F.f_97 N b.2.2.2.2 0 1000000) false fun r_1 =>
 bif !r_1 then
 (some false)
 else
 (I3 b (↑(b.1.length) : Int) N 0)))))
def f_24 (N : Nat) (b : Book) : Option Bool := f_24b N (f_24_0 N) b
def f_13 (N : Nat) (s : List Foe) : Option (List Foe) :=
 bif isEmp s then
 (both (some []) (bif decide ((0 + s.length) * 32 ≤ lim) then
 (some ([] ++ s)) else none))
 else
 (bif decide ((0 + s.length) * 32 ≤ lim) then
 (some ([] ++ s)) else none)
def f_20 (N : Nat) (s : List Txt) : Option (List Txt) :=
 bif isEmp s then
 (both (some []) (bif decide ((0 + s.length) * 16 ≤ lim) then
 (some ([] ++ s)) else none))
 else
 (bif decide ((0 + s.length) * 16 ≤ lim) then
 (some ([] ++ s)) else none)
def f_14 (N : Nat) (s : List Use) : Option (List Use) :=
 bif isEmp s then
 (both (some []) (bif decide ((0 + s.length) * 32 ≤ lim) then
 (some ([] ++ s)) else none))
 else
 (bif decide ((0 + s.length) * 32 ≤ lim) then
 (some ([] ++ s)) else none)
def f_44 (N : Nat) (w : Want) : Option Want :=
 ob (F.f_20 N w.2.2.1) [] fun r =>
 ob (F.f_14 N w.2.2.2.1) [] fun r_1 =>
 ob (F.f_20 N w.2.2.2.2.1) [] fun r_2 =>
 ob (F.f_20 N w.2.2.2.2.2) [] fun r_3 =>
 some (w.1, w.2.1, r, r_1, r_2, r_3)
def f_43_2r (N : Nat) (b : Book) (r : List Foe) (r_1 : List Txt) (t2c4 : Int) (out3c1a : List Spot) (t37 : Int) (next : Int → (List Part) → Option Book) : Int → (List Part) → Option Book := fun t38 out3c3a =>
 bif decide (t38 < t37) then
 (bif decide (0 ≤ t38) then
 (bif decide (t38 < (↑(b.2.2.2.1.length) : Int)) then
 (ob (F.f_44 N (b.2.2.2.1.getD t38.toNat dPart).1) dWant fun r_3 =>
 bif decide ((out3c3a.length + [(r_3, (b.2.2.2.1.getD t38.toNat dPart).2)].length) * 120 ≤ lim) then
 (next (i64.wrap (t38 + 1)) (out3c3a ++ [(r_3, (b.2.2.2.1.getD t38.toNat dPart).2)])) else none) else none) else none)
 else
 (some (r, out3c1a, r_1, out3c3a, b.2.2.2.2))
def f_43_2 (N : Nat) (b : Book) (r : List Foe) (r_1 : List Txt) (t2c4 : Int) (out3c1a : List Spot) (t37 : Int) : Nat → Int → (List Part) → Option Book := lp (fun _ _ => none) fun next => f_43_2r N b r r_1 t2c4 out3c1a t37 next
def f_43_0r (N : Nat) (I0 : Book → (List Foe) → (List Txt) → Int → (List Spot) → Int → Nat → Int → (List Part) → Option Book) (b : Book) (r : List Foe) (r_1 : List Txt) (t19 : Int) (t2c4 : Int) (next : Int → (List Spot) → Option Book) : Int → (List Spot) → Option Book := fun t20 out3c1a =>
 bif decide (t20 < t19) then
 (bif decide (0 ≤ t20) then
 (bif decide (t20 < (↑(b.2.1.length) : Int)) then
 (ob (F.f_20 N (b.2.1.getD t20.toNat dSpot).2.2.2.2) [] fun r_2 =>
 bif decide ((out3c1a.length + [((b.2.1.getD t20.toNat dSpot).1, (b.2.1.getD t20.toNat dSpot).2.1, (b.2.1.getD t20.toNat dSpot).2.2.1, (b.2.1.getD t20.toNat dSpot).2.2.2.1, r_2)].length) * 64 ≤ lim) then
 (next (i64.wrap (t20 + 1)) (out3c1a ++ [((b.2.1.getD t20.toNat dSpot).1, (b.2.1.getD t20.toNat dSpot).2.1, (b.2.1.getD t20.toNat dSpot).2.2.1, (b.2.1.getD t20.toNat dSpot).2.2.2.1, r_2)])) else none) else none) else none)
 else
 (I0 b r r_1 t2c4 out3c1a (↑(b.2.2.2.1.length) : Int) N 0 [])
def f_43_0 (N : Nat) (b : Book) (r : List Foe) (r_1 : List Txt) (t19 : Int) (t2c4 : Int) : Nat → Int → (List Spot) → Option Book := lp (fun _ _ => none) fun next => f_43_0r N (f_43_2 N) b r r_1 t19 t2c4 next
def f_43b (N : Nat) (I1 : Book → (List Foe) → (List Txt) → Int → Int → Nat → Int → (List Spot) → Option Book) (b : Book) : Option Book :=
 ob (F.f_13 N b.1) [] fun r =>
 ob (F.f_20 N b.2.2.1) [] fun r_1 =>
 I1 b r r_1 (↑(b.2.1.length) : Int) 0 N 0 []
def f_43 (N : Nat) (b : Book) : Option Book := f_43b N (f_43_0 N) b
def f_10 (N : Nat) (p : Part) (p1 : Int) : Option (Bool × Int) :=
 some (p.1.1 == p1, p1)
def f_0_0r (N : Nat) (s : List Part) (t7 : Int) (next : Int → Int → Option (Int × Int)) : Int → Int → Option (Int × Int) := fun t8 fpc0 =>
 bif decide (t8 < t7) then
 (bif decide (0 ≤ t8) then
 (bif decide (t8 < (↑s.length : Int)) then
 (ob (F.f_10 N (s.getD t8.toNat dPart) fpc0) (false, Int.ofNat 0) fun r_1 =>
 bif r_1.1 then
 (some (t8, r_1.2))
 else
 (next (i64.wrap (t8 + 1)) r_1.2)) else none) else none)
 else
 (some (-1, fpc0))
def f_0_0 (N : Nat) (s : List Part) (t7 : Int) : Nat → Int → Int → Option (Int × Int) := lp (fun _ _ => none) fun next => f_0_0r N s t7 next
def f_0b (N : Nat) (I0 : (List Part) → Int → Nat → Int → Int → Option (Int × Int)) (s : List Part) (p1 : Int) : Option (Int × Int) :=
 I0 s (↑s.length : Int) N 0 p1
def f_0 (N : Nat) (s : List Part) (p1 : Int) : Option (Int × Int) := f_0b N (f_0_0 N) s p1
def f_18 (N : Nat) (b : Book) (number : Int) : Option Int :=
 ob (F.f_0 N b.2.2.2.1 number) (Int.ofNat 0, Int.ofNat 0) fun r =>
 some r.1
def f_31_2r (N : Nat) (moved : Int) (done : Bool) (r_1 : Book) (t8c4 : Int) (w12c0 : Int) (w12c1 : Int) (w12c2 : List Txt) (w12c3 : List Use) (w12c4 : List Txt) (w12c5 : List Txt) (t74 : Int) (t8c0a : List Foe) (t8c1a : List Spot) (t8c2a : List Txt) (t8c3a : List Part) (out10c3a_1 : List Part) (next : Int → (List Spot) → Option (Book × Int)) : Int → (List Spot) → Option (Book × Int) := fun t75 out10c1a_1 =>
 bif decide (t75 < t74) then
 (bif decide (0 ≤ t75) then
 (bif decide (t75 < (↑(w12c3.length) : Int)) then
 (ob (F.f_23 N (r_1.1, out10c1a_1, r_1.2.2.1, out10c3a_1, r_1.2.2.2.2) (w12c3.getD t75.toNat dUse).1) (Int.ofNat 0) fun r_4 =>
 bif decide (0 ≤ r_4) then
 (bif decide (r_4 < (↑out10c1a_1.length : Int)) then
 (bif (w12c3.getD t75.toNat dUse).2.1 == 1 then
 (let out10c1as_7 : List Spot := out10c1a_1.set r_4.toNat ((out10c1a_1.getD r_4.toNat dSpot).1, (out10c1a_1.getD r_4.toNat dSpot).2.1, i64.wrap ((out10c1a_1.getD r_4.toNat dSpot).2.2.1 + i64.wrap ((w12c3.getD t75.toNat dUse).2.2 - moved)), (out10c1a_1.getD r_4.toNat dSpot).2.2.2)
 let out10c1as_8 : List Spot := out10c1as_7.set r_4.toNat ((out10c1as_7.getD r_4.toNat dSpot).1, (out10c1as_7.getD r_4.toNat dSpot).2.1, (out10c1as_7.getD r_4.toNat dSpot).2.2.1, i64.wrap ((out10c1as_7.getD r_4.toNat dSpot).2.2.2.1 - moved), (out10c1as_7.getD r_4.toNat dSpot).2.2.2.2)
 bif w12c1 == 2 then
 (bif done then
 (let out10c1as_9 : List Spot := out10c1as_8.set r_4.toNat ((out10c1as_8.getD r_4.toNat dSpot).1, (out10c1as_8.getD r_4.toNat dSpot).2.1, (out10c1as_8.getD r_4.toNat dSpot).2.2.1, (out10c1as_8.getD r_4.toNat dSpot).2.2.2.1, [])
 next (i64.wrap (t75 + 1)) out10c1as_9)
 else
 (next (i64.wrap (t75 + 1)) out10c1as_8))
 else
 (next (i64.wrap (t75 + 1)) out10c1as_8))
 else
 (bif (w12c3.getD t75.toNat dUse).2.1 == 2 then
 (let out10c1as_10 : List Spot := out10c1a_1.set r_4.toNat ((out10c1a_1.getD r_4.toNat dSpot).1, (out10c1a_1.getD r_4.toNat dSpot).2.1, i64.wrap ((out10c1a_1.getD r_4.toNat dSpot).2.2.1 + moved), (out10c1a_1.getD r_4.toNat dSpot).2.2.2)
 let out10c1as_11 : List Spot := out10c1as_10.set r_4.toNat ((out10c1as_10.getD r_4.toNat dSpot).1, (out10c1as_10.getD r_4.toNat dSpot).2.1, (out10c1as_10.getD r_4.toNat dSpot).2.2.1, i64.wrap ((out10c1as_10.getD r_4.toNat dSpot).2.2.2.1 - i64.wrap ((w12c3.getD t75.toNat dUse).2.2 - moved)), (out10c1as_10.getD r_4.toNat dSpot).2.2.2.2)
 bif w12c1 == 2 then
 (bif done then
 (let out10c1as_12 : List Spot := out10c1as_11.set r_4.toNat ((out10c1as_11.getD r_4.toNat dSpot).1, (out10c1as_11.getD r_4.toNat dSpot).2.1, (out10c1as_11.getD r_4.toNat dSpot).2.2.1, (out10c1as_11.getD r_4.toNat dSpot).2.2.2.1, [])
 next (i64.wrap (t75 + 1)) out10c1as_12)
 else
 (next (i64.wrap (t75 + 1)) out10c1as_11))
 else
 (next (i64.wrap (t75 + 1)) out10c1as_11))
 else
 (bif w12c1 == 2 then
 (bif done then
 (let out10c1as_13 : List Spot := out10c1a_1.set r_4.toNat ((out10c1a_1.getD r_4.toNat dSpot).1, (out10c1a_1.getD r_4.toNat dSpot).2.1, (out10c1a_1.getD r_4.toNat dSpot).2.2.1, (out10c1a_1.getD r_4.toNat dSpot).2.2.2.1, [])
 next (i64.wrap (t75 + 1)) out10c1as_13)
 else
 (next (i64.wrap (t75 + 1)) out10c1a_1))
 else
 (next (i64.wrap (t75 + 1)) out10c1a_1)))) else none) else none) else none) else none)
 else
 (some ((r_1.1, out10c1a_1, r_1.2.2.1, out10c3a_1, r_1.2.2.2.2), 0))
def f_31_2 (N : Nat) (moved : Int) (done : Bool) (r_1 : Book) (t8c4 : Int) (w12c0 : Int) (w12c1 : Int) (w12c2 : List Txt) (w12c3 : List Use) (w12c4 : List Txt) (w12c5 : List Txt) (t74 : Int) (t8c0a : List Foe) (t8c1a : List Spot) (t8c2a : List Txt) (t8c3a : List Part) (out10c3a_1 : List Part) : Nat → Int → (List Spot) → Option (Book × Int) := lp (fun _ _ => none) fun next => f_31_2r N moved done r_1 t8c4 w12c0 w12c1 w12c2 w12c3 w12c4 w12c5 t74 t8c0a t8c1a t8c2a t8c3a out10c3a_1 next
def f_31_0r (N : Nat) (I0 : Int → Bool → Book → Int → Int → Int → (List Txt) → (List Use) → (List Txt) → (List Txt) → Int → (List Foe) → (List Spot) → (List Txt) → (List Part) → (List Part) → Nat → Int → (List Spot) → Option (Book × Int)) (b : Book) (moved : Int) (done : Bool) (r_1 : Book) (r_2 : Int) (t40 : List Use) (t41 : Int) (t8c4 : Int) (w12c0 : Int) (w12c1 : Int) (w12c2 : List Txt) (w12c3 : List Use) (w12c4 : List Txt) (w12c5 : List Txt) (next : Int → Option (Book × Int)) : Int → Option (Book × Int) := fun t42 =>
 bif decide (t42 < t41) then
 (bif decide (0 ≤ t42) then
 (bif decide (t42 < (↑(t40.length) : Int)) then
 (bif (t40.getD t42.toNat dUse).2.1 != 3 then
 (bif decide (moved > (t40.getD t42.toNat dUse).2.2) then
 (some (r_1, 2))
 else
 (next (i64.wrap (t42 + 1))))
 else
 (next (i64.wrap (t42 + 1)))) else none) else none)
 else
 (bif decide (0 ≤ r_2) then
 (bif decide (r_2 < (↑(b.2.2.2.1.length) : Int)) then
 (bif !(b.2.2.2.1.getD r_2.toNat dPart).2 then
 (some (r_1, 12))
 else
 (bif decide (0 ≤ r_2) then
 (bif decide (r_2 < (↑(r_1.2.2.2.1.length) : Int)) then
 (bif decide (i64.wrap (r_2 + 1) = r_2 + 1) then
 (I0 moved done r_1 t8c4 w12c0 w12c1 w12c2 w12c3 w12c4 w12c5 (↑(w12c3.length) : Int) [] [] [] [] (List.eraseIdx r_1.2.2.2.1 r_2.toNat) N 0 r_1.2.1) else none) else none) else none)) else none) else none)
def f_31_0 (N : Nat) (b : Book) (moved : Int) (done : Bool) (r_1 : Book) (r_2 : Int) (t40 : List Use) (t41 : Int) (t8c4 : Int) (w12c0 : Int) (w12c1 : Int) (w12c2 : List Txt) (w12c3 : List Use) (w12c4 : List Txt) (w12c5 : List Txt) : Nat → Int → Option (Book × Int) := lp (fun _ => none) fun next => f_31_0r N (f_31_2 N) b moved done r_1 r_2 t40 t41 t8c4 w12c0 w12c1 w12c2 w12c3 w12c4 w12c5 next
def f_31b (N : Nat) (I1 : Book → Int → Bool → Book → Int → (List Use) → Int → Int → Int → Int → (List Txt) → (List Use) → (List Txt) → (List Txt) → Nat → Int → Option (Book × Int)) (b : Book) (number : Int) (moved : Int) (done : Bool) : Option (Book × Int) :=
 ob (F.f_24 N b) false fun r =>
 bif !r then
 (some (([], [], [], [], 0), 1))
 else
 (ob (F.f_43 N b) dB fun r_1 =>
 ob (F.f_18 N b number) (Int.ofNat 0) fun r_2 =>
 bif decide (r_2 < 0) then
 (some (r_1, 3))
 else
 (bif decide (0 ≤ r_2) then
 (bif decide (r_2 < (↑(b.2.2.2.1.length) : Int)) then
 (bif decide (moved < 0) then
 (some (r_1, 2))
 else
 (I1 b moved done r_1 r_2 ((b.2.2.2.1.getD r_2.toNat dPart).1.2.2.2.1) (↑(List.length (b.2.2.2.1.getD r_2.toNat dPart).1.2.2.2.1) : Int) 0 ((b.2.2.2.1.getD r_2.toNat dPart).1.1) ((b.2.2.2.1.getD r_2.toNat dPart).1.2.1) ((b.2.2.2.1.getD r_2.toNat dPart).1.2.2.1) ((b.2.2.2.1.getD r_2.toNat dPart).1.2.2.2.1) ((b.2.2.2.1.getD r_2.toNat dPart).1.2.2.2.2.1) ((b.2.2.2.1.getD r_2.toNat dPart).1.2.2.2.2.2) N 0)) else none) else none))
def f_31 (N : Nat) (b : Book) (number : Int) (moved : Int) (done : Bool) : Option (Book × Int) := f_31b N (f_31_0 N) b number moved done
def f_68_0r (N : Nat) (a : List Txt) (b : List Txt) (next : Int → Option Bool) : Int → Option Bool := fun i5 =>
 bif decide (i5 < (↑a.length : Int)) then
 (bif decide (0 ≤ i5) then
 (bif decide (i5 < (↑a.length : Int)) then
 (bif decide (0 ≤ i5) then
 (bif decide (i5 < (↑b.length : Int)) then
 (bif !a.getD i5.toNat [] == b.getD i5.toNat [] then
 (some false)
 else
 (next (i64.wrap (i5 + 1)))) else none) else none) else none) else none)
 else
 (some true)
def f_68_0 (N : Nat) (a : List Txt) (b : List Txt) : Nat → Int → Option Bool := lp (fun _ => none) fun next => f_68_0r N a b next
def f_68b (N : Nat) (I0 : (List Txt) → (List Txt) → Nat → Int → Option Bool) (a : List Txt) (b : List Txt) : Option Bool :=
 bif (↑a.length : Int) != (↑b.length : Int) then
 (some false)
 else
 (I0 a b N 0)
def f_68 (N : Nat) (a : List Txt) (b : List Txt) : Option Bool := f_68b N (f_68_0 N) a b
def f_88_0r (N : Nat) (a : Want) (b : Want) (next : Int → Option Bool) : Int → Option Bool := fun i5 =>
 bif decide (i5 < (↑(a.2.2.2.1.length) : Int)) then
 (bif decide (0 ≤ i5) then
 (bif decide (i5 < (↑(a.2.2.2.1.length) : Int)) then
 (bif decide (0 ≤ i5) then
 (bif decide (i5 < (↑(b.2.2.2.1.length) : Int)) then
 (bif !((a.2.2.2.1.getD i5.toNat dUse).1 == (b.2.2.2.1.getD i5.toNat dUse).1 && ((a.2.2.2.1.getD i5.toNat dUse).2.1 == (b.2.2.2.1.getD i5.toNat dUse).2.1 && ((a.2.2.2.1.getD i5.toNat dUse).2.2 == (b.2.2.2.1.getD i5.toNat dUse).2.2 && true))) then
 (some false)
 else
 (next (i64.wrap (i5 + 1)))) else none) else none) else none) else none)
 else
 (some true)
def f_88_0 (N : Nat) (a : Want) (b : Want) : Nat → Int → Option Bool := lp (fun _ => none) fun next => f_88_0r N a b next
def f_88b (N : Nat) (I0 : Want → Want → Nat → Int → Option Bool) (a : Want) (b : Want) : Option Bool :=
 bif a.1 != b.1 then
 (some false)
 else
 (bif a.2.1 != b.2.1 then
 (some false)
 else
 (bif (↑(a.2.2.2.1.length) : Int) != (↑(b.2.2.2.1.length) : Int) then
 (some false)
 else
 (ob (F.f_68 N a.2.2.1 b.2.2.1) false fun r =>
 bif !r then
 (some false)
 else
 (ob (F.f_68 N a.2.2.2.2.1 b.2.2.2.2.1) false fun r_1 =>
 bif !r_1 then
 (some false)
 else
 (ob (F.f_68 N a.2.2.2.2.2 b.2.2.2.2.2) false fun r_2 =>
 bif !r_2 then
 (some false)
 else
 (I0 a b N 0))))))
def f_88 (N : Nat) (a : Want) (b : Want) : Option Bool := f_88b N (f_88_0 N) a b
def f_85_4r (N : Nat) (a : Book) (b : Book) (next : Int → Option Bool) : Int → Option Bool := fun i9 =>
 bif decide (i9 < (↑(a.2.2.2.1.length) : Int)) then
 (bif decide (0 ≤ i9) then
 (bif decide (i9 < (↑(a.2.2.2.1.length) : Int)) then
 (bif decide (0 ≤ i9) then
 (bif decide (i9 < (↑(b.2.2.2.1.length) : Int)) then
 (bif !(a.2.2.2.1.getD i9.toNat dPart).2 == (b.2.2.2.1.getD i9.toNat dPart).2 then
 (some false)
 else
 (bif decide (0 ≤ i9) then
 (bif decide (i9 < (↑(a.2.2.2.1.length) : Int)) then
 (bif decide (0 ≤ i9) then
 (bif decide (i9 < (↑(b.2.2.2.1.length) : Int)) then
 (ob (F.f_88 N (a.2.2.2.1.getD i9.toNat dPart).1 (b.2.2.2.1.getD i9.toNat dPart).1) false fun r_2 =>
 bif !r_2 then
 (some false)
 else
 (next (i64.wrap (i9 + 1)))) else none) else none) else none) else none)) else none) else none) else none) else none)
 else
 (some true)
def f_85_4 (N : Nat) (a : Book) (b : Book) : Nat → Int → Option Bool := lp (fun _ => none) fun next => f_85_4r N a b next
def f_85_2r (N : Nat) (I0 : Book → Book → Nat → Int → Option Bool) (a : Book) (b : Book) (next : Int → Option Bool) : Int → Option Bool := fun i6 =>
 bif decide (i6 < (↑(a.2.1.length) : Int)) then
 (bif decide (0 ≤ i6) then
 (bif decide (i6 < (↑(a.2.1.length) : Int)) then
 (bif decide (0 ≤ i6) then
 (bif decide (i6 < (↑(b.2.1.length) : Int)) then
 (bif !(a.2.1.getD i6.toNat dSpot).1 == (b.2.1.getD i6.toNat dSpot).1 then
 (some false)
 else
 (bif (a.2.1.getD i6.toNat dSpot).2.1 != (b.2.1.getD i6.toNat dSpot).2.1 then
 (some false)
 else
 (bif (a.2.1.getD i6.toNat dSpot).2.2.1 != (b.2.1.getD i6.toNat dSpot).2.2.1 then
 (some false)
 else
 (bif (a.2.1.getD i6.toNat dSpot).2.2.2.1 != (b.2.1.getD i6.toNat dSpot).2.2.2.1 then
 (some false)
 else
 (ob (F.f_68 N (a.2.1.getD i6.toNat dSpot).2.2.2.2 (b.2.1.getD i6.toNat dSpot).2.2.2.2) false fun r_1 =>
 bif !r_1 then
 (some false)
 else
 (next (i64.wrap (i6 + 1)))))))) else none) else none) else none) else none)
 else
 (I0 a b N 0)
def f_85_2 (N : Nat) (a : Book) (b : Book) : Nat → Int → Option Bool := lp (fun _ => none) fun next => f_85_2r N (f_85_4 N) a b next
def f_85_0r (N : Nat) (I1 : Book → Book → Nat → Int → Option Bool) (a : Book) (b : Book) (next : Int → Option Bool) : Int → Option Bool := fun i5 =>
 bif decide (i5 < (↑(a.1.length) : Int)) then
 (bif decide (0 ≤ i5) then
 (bif decide (i5 < (↑(a.1.length) : Int)) then
 (bif decide (0 ≤ i5) then
 (bif decide (i5 < (↑(b.1.length) : Int)) then
 (bif !((a.1.getD i5.toNat dFoe).1 == (b.1.getD i5.toNat dFoe).1 && ((a.1.getD i5.toNat dFoe).2 == (b.1.getD i5.toNat dFoe).2 && true)) then
 (some false)
 else
 (next (i64.wrap (i5 + 1)))) else none) else none) else none) else none)
 else
 (I1 a b N 0)
def f_85_0 (N : Nat) (a : Book) (b : Book) : Nat → Int → Option Bool := lp (fun _ => none) fun next => f_85_0r N (f_85_2 N) a b next
def f_85b (N : Nat) (I2 : Book → Book → Nat → Int → Option Bool) (a : Book) (b : Book) : Option Bool :=
 bif (↑(a.1.length) : Int) != (↑(b.1.length) : Int) then
 (some false)
 else
 (bif (↑(a.2.1.length) : Int) != (↑(b.2.1.length) : Int) then
 (some false)
 else
 (ob (F.f_68 N a.2.2.1 b.2.2.1) false fun r =>
 bif !r then
 (some false)
 else
 (bif (↑(a.2.2.2.1.length) : Int) != (↑(b.2.2.2.1.length) : Int) then
 (some false)
 else
 (bif a.2.2.2.2 != b.2.2.2.2 then
 (some false)
 else
 (I2 a b N 0)))))
def f_85 (N : Nat) (a : Book) (b : Book) : Option Bool := f_85b N (f_85_0 N) a b
def f_86_0r (N : Nat) (b : Book) (number : Int) (t4c0 : Int) (t4c1 : Int) (next : Int → Option Want) : Int → Option Want := fun i5 =>
 bif decide (i5 < (↑(b.2.2.2.1.length) : Int)) then
 (bif decide (0 ≤ i5) then
 (bif decide (i5 < (↑(b.2.2.2.1.length) : Int)) then
 (bif (b.2.2.2.1.getD i5.toNat dPart).1.1 == number then
 (bif decide (0 ≤ i5) then
 (bif decide (i5 < (↑(b.2.2.2.1.length) : Int)) then
 (some ((b.2.2.2.1.getD i5.toNat dPart).1)) else none) else none)
 else
 (next (i64.wrap (i5 + 1)))) else none) else none)
 else
 (some (0, 0, [], [], [], []))
def f_86_0 (N : Nat) (b : Book) (number : Int) (t4c0 : Int) (t4c1 : Int) : Nat → Int → Option Want := lp (fun _ => none) fun next => f_86_0r N b number t4c0 t4c1 next
def f_86b (N : Nat) (I0 : Book → Int → Int → Int → Nat → Int → Option Want) (b : Book) (number : Int) : Option Want :=
 I0 b number 0 0 N 0
def f_86 (N : Nat) (b : Book) (number : Int) : Option Want := f_86b N (f_86_0 N) b number
def f_87_0r (N : Nat) (w : Want) (place : Txt) (next : Int → Option Bool) : Int → Option Bool := fun i5 =>
 bif decide (i5 < (↑(w.2.2.2.1.length) : Int)) then
 (bif decide (0 ≤ i5) then
 (bif decide (i5 < (↑(w.2.2.2.1.length) : Int)) then
 (bif (w.2.2.2.1.getD i5.toNat dUse).1 == place then
 (some true)
 else
 (next (i64.wrap (i5 + 1)))) else none) else none)
 else
 (some false)
def f_87_0 (N : Nat) (w : Want) (place : Txt) : Nat → Int → Option Bool := lp (fun _ => none) fun next => f_87_0r N w place next
def f_87b (N : Nat) (I0 : Want → Txt → Nat → Int → Option Bool) (w : Want) (place : Txt) : Option Bool :=
 I0 w place N 0
def f_87 (N : Nat) (w : Want) (place : Txt) : Option Bool := f_87b N (f_87_0 N) w place
def f_67_0r (N : Nat) (r : Book × Int × Int × Bool) (r_1 : Book × Int) (r_7 : Want) (next : Int → Option Bool) : Int → Option Bool := fun i12 =>
 bif decide (i12 < (↑(r.1.2.1.length) : Int)) then
 (bif decide (0 ≤ i12) then
 (bif decide (i12 < (↑(r.1.2.1.length) : Int)) then
 (bif decide (0 ≤ i12) then
 (bif decide (i12 < (↑(r_1.1.2.1.length) : Int)) then
 (ob (F.f_87 N r_7 (r.1.2.1.getD i12.toNat dSpot).1) false fun r_8 =>
 bif !r_8 then
 (bif (r.1.2.1.getD i12.toNat dSpot).2.2.1 != (r_1.1.2.1.getD i12.toNat dSpot).2.2.1 then
 (some false)
 else
 (bif (r.1.2.1.getD i12.toNat dSpot).2.2.2.1 != (r_1.1.2.1.getD i12.toNat dSpot).2.2.2.1 then
 (some false)
 else
 (ob (F.f_68 N (r.1.2.1.getD i12.toNat dSpot).2.2.2.2 (r_1.1.2.1.getD i12.toNat dSpot).2.2.2.2) false fun r_9 =>
 bif !r_9 then
 (some false)
 else
 (ob (F.f_68 N (r.1.2.1.getD i12.toNat dSpot).2.2.2.2 (r_1.1.2.1.getD i12.toNat dSpot).2.2.2.2) default fun r_10 =>
 bif !r_9 then
 (bif !r.2.2.2 then
 (some false)
 else
 (bif r_7.2.1 != 2 then
 (some false)
 else
 (bif decide ((↑(List.length (r_1.1.2.1.getD i12.toNat dSpot).2.2.2.2) : Int) > 0) then
 (some false)
 else
 (bif decide (i64.wrap ((r_1.1.2.1.getD i12.toNat dSpot).2.2.2.1 - (r_1.1.2.1.getD i12.toNat dSpot).2.2.1) > i64.wrap ((r.1.2.1.getD i12.toNat dSpot).2.2.2.1 - (r.1.2.1.getD i12.toNat dSpot).2.2.1)) then
 (some false)
 else
 (next (i64.wrap (i12 + 1)))))))
 else
 (bif decide (i64.wrap ((r_1.1.2.1.getD i12.toNat dSpot).2.2.2.1 - (r_1.1.2.1.getD i12.toNat dSpot).2.2.1) > i64.wrap ((r.1.2.1.getD i12.toNat dSpot).2.2.2.1 - (r.1.2.1.getD i12.toNat dSpot).2.2.1)) then
 (some false)
 else
 (next (i64.wrap (i12 + 1))))))))
 else
 (ob (F.f_68 N (r.1.2.1.getD i12.toNat dSpot).2.2.2.2 (r_1.1.2.1.getD i12.toNat dSpot).2.2.2.2) false fun r_11 =>
 bif !r_11 then
 (bif !r.2.2.2 then
 (some false)
 else
 (bif r_7.2.1 != 2 then
 (some false)
 else
 (bif decide ((↑(List.length (r_1.1.2.1.getD i12.toNat dSpot).2.2.2.2) : Int) > 0) then
 (some false)
 else
 (bif decide (i64.wrap ((r_1.1.2.1.getD i12.toNat dSpot).2.2.2.1 - (r_1.1.2.1.getD i12.toNat dSpot).2.2.1) > i64.wrap ((r.1.2.1.getD i12.toNat dSpot).2.2.2.1 - (r.1.2.1.getD i12.toNat dSpot).2.2.1)) then
 (some false)
 else
 (next (i64.wrap (i12 + 1)))))))
 else
 (bif decide (i64.wrap ((r_1.1.2.1.getD i12.toNat dSpot).2.2.2.1 - (r_1.1.2.1.getD i12.toNat dSpot).2.2.1) > i64.wrap ((r.1.2.1.getD i12.toNat dSpot).2.2.2.1 - (r.1.2.1.getD i12.toNat dSpot).2.2.1)) then
 (some false)
 else
 (next (i64.wrap (i12 + 1)))))) else none) else none) else none) else none)
 else
 (ob (F.f_31 N r_1.1 r.2.1 r.2.2.1 r.2.2.2) (dB, Int.ofNat 0) fun r_12 =>
 bif r_12.2 == 3 then
 (bif (↑(r_1.1.2.2.2.1.length) : Int) == i64.wrap ((↑(r.1.2.2.2.1.length) : Int) - 1) then
 (ob (F.f_24 N r_1.1) false fun r_13 =>
 some r_13)
 else
 (some false))
 else
 (some false))
def f_67_0 (N : Nat) (r : Book × Int × Int × Bool) (r_1 : Book × Int) (r_7 : Want) : Nat → Int → Option Bool := lp (fun _ => none) fun next => f_67_0r N r r_1 r_7 next
def f_67b (N : Nat) (I0 : (Book × Int × Int × Bool) → (Book × Int) → Want → Nat → Int → Option Bool) (code : List Int) : Option Bool :=
 bif decide ((↑code.length : Int) > 1048576) then
 (some true)
 else
 (ob (F.f_22 N code) (dB, Int.ofNat 0, Int.ofNat 0, false) fun r =>
 ob (F.f_31 N r.1 r.2.1 r.2.2.1 r.2.2.2) (dB, Int.ofNat 0) fun r_1 =>
 ob (F.f_35 N r.1 r.2.1 r.2.2.1 r.2.2.2) (dB, Int.ofNat 0) fun r_2 =>
 bif r_1.2 != r_2.2 then
 (some false)
 else
 (ob (F.f_85 N r_1.1 r_2.1) false fun r_3 =>
 bif !r_3 then
 (some false)
 else
 (bif r_1.2 != 0 then
 (bif r_1.2 == 1 then
 (ob (F.f_85 N r_1.1 ([], [], [], [], 0)) false fun r_4 =>
 bif r_4 then
 (some true)
 else
 (ob (F.f_85 N r_1.1 r.1) false fun r_5 =>
 some r_5))
 else
 (ob (F.f_85 N r_1.1 r.1) false fun r_6 =>
 some r_6))
 else
 (ob (F.f_86 N r.1 r.2.1) dWant fun r_7 =>
 I0 r r_1 r_7 N 0))))
def f_67 (N : Nat) (code : List Int) : Option Bool := f_67b N (f_67_0 N) code
end
end Go.MC.F

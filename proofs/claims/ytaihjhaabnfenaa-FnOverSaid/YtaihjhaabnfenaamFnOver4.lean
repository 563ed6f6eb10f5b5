/- Part 4 of the texts of the claim FnOver: an interpreter of the translated code over data, proved sound; the contracts of the functions; the same in plain words. -/
import Derived.Test.YtaihjhaabnfenaamFnOver2
import Derived.Test.YtaihjhaabnfenaamFnOver3
set_option linter.unusedVariables false
set_option linter.unusedSimpArgs false
set_option maxRecDepth 100000
namespace Go.MC
open Go.Proofs Go.MC.F
noncomputable section
abbrev kp : Dir := .keep
abbrev vv (t : Ty) (x : t.den) : AV := .w (.one (.v t x))
abbrev vb (n : Nat) : AV := .w (.one (.pb n 0))
abbrev va (n : Nat) : AV := .w (.one (.arr n))
def an_spec_l1Open : Nat → Option Ann := fun _ => none
noncomputable def fi_spec_l1Open : FI := ⟨Try.f71.results.toList, bodyOf Try.f71.body, Try.f71.ntmps, an_spec_l1Open⟩
theorem ok_spec_l1Open : FnOK Try.prog 71 fi_spec_l1Open := ⟨⟨Try.f71, Try.func71, by kernel_rfl, rfl, rfl, by kernel_rfl⟩, by kernel_rfl⟩
def an_f_38 : Nat → Option Ann := fun _ => none
noncomputable def fi_f_38 : FI := ⟨Try.f74.results.toList, bodyOf Try.f74.body, Try.f74.ntmps, an_f_38⟩
theorem ok_f_38 : FnOK Try.prog 74 fi_f_38 := ⟨⟨Try.f74, Try.func74, by kernel_rfl, rfl, rfl, by kernel_rfl⟩, by kernel_rfl⟩
def phiL_f_38 (N : Nat) : List (Nat × Summ) := []
def sg_f_38 : Summ := sigOf [.bx (.pair (.slice tByte) tInt), .d tInt false] true [.d tInt false]
theorem run_f_38 (N : Nat) (r : Rdr) (n : Int) : runST (ofDs [tInt, .pair (.slice tByte) tInt]) (tabOf tabL) (tabS (phiL_f_38 N)) inl0 N fi_f_38 sg_f_38 [⟨.pair (.slice tByte) tInt, r⟩, ⟨tInt, n⟩] = F.f_38 N r n := by kernel_rfl
def sm_f_38 (N : Nat) : Summ := summOf [.bx (.pair (.slice tByte) tInt), .d tInt false] true [.d tInt false] [tInt, .pair (.slice tByte) tInt] (F.f_38 N)
theorem con_f_38 (N : Nat) : Contract Try.prog 74 (sm_f_38 N) := con_of (N := N) tabOK mixed (callOK_list (l := phiL_f_38 N) trivial) (inl0_ok _) ok_f_38 (by decide) fun r n => run_f_38 N r n
def an_f_56 : Nat → Option Ann := fun _ => none
noncomputable def fi_f_56 : FI := ⟨Try.f134.results.toList, bodyOf Try.f134.body, Try.f134.ntmps, an_f_56⟩
theorem ok_f_56 : FnOK Try.prog 134 fi_f_56 := ⟨⟨Try.f134, Try.func134, by kernel_rfl, rfl, rfl, by kernel_rfl⟩, by kernel_rfl⟩
def phiL_f_56 (N : Nat) : List (Nat × Summ) := [(74, sm_f_38 N)]
def sg_f_56 : Summ := sigOf [.bx (.pair (.slice tByte) tInt), .d tTxts false] true [.d (.str) false]
theorem run_f_56 (N : Nat) (r : Rdr) (list : List Txt) : runST (ofDs [.str, .pair (.slice tByte) tInt]) (tabOf tabL) (tabS (phiL_f_56 N)) inl0 N fi_f_56 sg_f_56 [⟨.pair (.slice tByte) tInt, r⟩, ⟨tTxts, list⟩] = F.f_56 N r list := by kernel_rfl
def sm_f_56 (N : Nat) : Summ := summOf [.bx (.pair (.slice tByte) tInt), .d tTxts false] true [.d (.str) false] [.str, .pair (.slice tByte) tInt] (F.f_56 N)
theorem con_f_56 (N : Nat) : Contract Try.prog 134 (sm_f_56 N) := con_of (N := N) tabOK mixed (callOK_list (l := phiL_f_56 N) (allc rfl (con_f_38 N) trivial)) (inl0_ok _) ok_f_56 (by decide) fun r list => run_f_56 N r list
def an_f_76 : Nat → Option Ann
 | 0 => some ⟨⟨[(0, kp), (2, kp), (3, kp), (4, .own 700004 9 Ty.str), (5, kp)], [(500000, [kp, kp]), (2, [kp, kp, kp, kp, kp]), (3, [Dir.frz tFoe, Dir.dow 1000301 64 [9] tSpot, kp, kp, kp])], []⟩, [(0, ⟨[(0, kp), (2, kp), (3, kp)], [(500000, [kp, kp]), (2, [kp, kp, kp, kp, kp]), (3, [Dir.frz tFoe, Dir.dow 1000301 64 [9] tSpot, kp, kp, kp])], []⟩)], ⟨[], [], []⟩⟩
 | 2 => some ⟨⟨[(0, kp), (2, kp), (3, kp), (7, .own 700007 9 Ty.str), (8, kp)], [(500000, [kp, kp]), (2, [kp, kp, kp, kp, kp]), (3, [kp, Dir.dow 1000301 64 [9] tSpot, .own 1000302 9 Ty.str, kp, kp])], []⟩, [(2, ⟨[(2, kp), (3, kp)], [(500000, [kp, kp]), (2, [kp, kp, kp, kp, kp]), (3, [kp, Dir.dow 1000301 64 [9] tSpot, .own 1000302 9 Ty.str, kp, kp])], []⟩)], ⟨[], [], []⟩⟩
 | _ => none
noncomputable def fi_f_76 : FI := ⟨Try.f131.results.toList, bodyOf Try.f131.body, Try.f131.ntmps, an_f_76⟩
theorem ok_f_76 : FnOK Try.prog 131 fi_f_76 := ⟨⟨Try.f131, Try.func131, by kernel_rfl, rfl, rfl, by kernel_rfl⟩, by kernel_rfl⟩
def phiL_f_76 (N : Nat) : List (Nat × Summ) := [(74, sm_f_38 N), (134, sm_f_56 N)]
def sg_f_76 : Summ := sigOf [.bx (.pair (.slice tByte) tInt)] true [.d tBook true]
def S_f_76_2 (t2c4 : Int) (b3c0 : List Foe) (b3c4 : Int) (b3c1a : List Spot) (valves7a : List Txt) (i8 : Int) (rpc0_1 : List Int) (rpc1_1 : Int) (b3c2a : List Txt) : St := ⟨[(0, vb 500000), (2, vb 2), (3, vb 3), (7, va 700007), (8, vv tInt i8)], [(500000, .box [.v tByte.slice rpc0_1, .v tInt rpc1_1]), (2, .box [.emp, .emp, .emp, .emp, .v tInt t2c4]), (3, .box [.v tFoe.slice b3c0, .arr 1000301, .arr 1000302, .emp, .v tInt b3c4]), (700007, .arr 9 Ty.str valves7a), (1000301, .arr 64 tSpot b3c1a (Dp.yes [9])), (1000302, .arr 9 Ty.str b3c2a)]⟩
def S_f_76_0 (t2c4 : Int) (b3c0 : List Foe) (b3c4 : Int) (names4a : List Txt) (i5 : Int) (rpc0 : List Int) (rpc1 : Int) (b3c1a : List Spot) : St := ⟨[(0, vb 500000), (2, vb 2), (3, vb 3), (4, va 700004), (5, vv tInt i5)], [(500000, .box [.v tByte.slice rpc0, .v tInt rpc1]), (2, .box [.emp, .emp, .emp, .emp, .v tInt t2c4]), (3, .box [.v tFoe.slice b3c0, .arr 1000301, .emp, .emp, .v tInt b3c4]), (700004, .arr 9 Ty.str names4a), (1000301, .arr 64 tSpot b3c1a (Dp.yes [9]))]⟩
noncomputable def E_f_76 (N : Nat) : Env := envOf (tabOf tabL) (tabS (phiL_f_76 N)) inl0 N fi_f_76 [500000]
noncomputable def K_f_76 := (kFun (tabOf tabL) fi_f_76.res (kT (ofDs [tBook, .pair (.slice tByte) tInt]) sg_f_76 [(500000, .bx (.pair (.slice tByte) tInt))]))
noncomputable def its_f_76_2 (N : Nat) (n : Nat) : St → Option (Book × Rdr) := fun S' => iter [500000] (annAt fi_f_76 2) (code (E_f_76 N) (lpIn fi_f_76.body 0 2) 2) n S' (contOf (E_f_76 N) fi_f_76.body 0 2 K_f_76)
noncomputable def it_f_76_2 (N : Nat) (t2c4 : Int) (b3c0 : List Foe) (b3c4 : Int) (b3c1a : List Spot) (valves7a : List Txt) (n : Nat) : Int → (List Int) → Int → (List Txt) → Option (Book × Rdr) := fun i8 rpc0_1 rpc1_1 b3c2a => its_f_76_2 N n (S_f_76_2 t2c4 b3c0 b3c4 b3c1a valves7a i8 rpc0_1 rpc1_1 b3c2a)
theorem fe_f_76_2 (N : Nat) : it_f_76_2 N = f_76_2 N := funext fun t2c4 => funext fun b3c0 => funext fun b3c4 => funext fun b3c1a => funext fun valves7a => funext (lp_all (by kernel_rfl) fun n => by
 show _ = f_76_2r N t2c4 b3c0 b3c4 b3c1a valves7a (it_f_76_2 N t2c4 b3c0 b3c4 b3c1a valves7a n)
 kernel_rfl)
noncomputable def its_f_76_0 (N : Nat) (n : Nat) : St → Option (Book × Rdr) := fun S' => iter [500000] (annAt fi_f_76 0) (code (E_f_76 N) (lpIn fi_f_76.body 0 0) 0) n S' (contOf (E_f_76 N) fi_f_76.body 0 0 K_f_76)
noncomputable def it_f_76_0 (N : Nat) (t2c4 : Int) (b3c0 : List Foe) (b3c4 : Int) (names4a : List Txt) (n : Nat) : Int → (List Int) → Int → (List Spot) → Option (Book × Rdr) := fun i5 rpc0 rpc1 b3c1a => its_f_76_0 N n (S_f_76_0 t2c4 b3c0 b3c4 names4a i5 rpc0 rpc1 b3c1a)
theorem fe_f_76_0 (N : Nat) : it_f_76_0 N = f_76_0 N := funext fun t2c4 => funext fun b3c0 => funext fun b3c4 => funext fun names4a => funext (lp_all (by kernel_rfl) fun n => by
 show _ = f_76_0r N (f_76_2 N) t2c4 b3c0 b3c4 names4a (it_f_76_0 N t2c4 b3c0 b3c4 names4a n)
 rw [show f_76_2 N = it_f_76_2 N from (fe_f_76_2 N).symm]
 kernel_rfl)
theorem run_f_76 (N : Nat) (r : Rdr) : runST (ofDs [tBook, .pair (.slice tByte) tInt]) (tabOf tabL) (tabS (phiL_f_76 N)) inl0 N fi_f_76 sg_f_76 [⟨.pair (.slice tByte) tInt, r⟩] = F.f_76 N r := by
 show _ = F.f_76b N (F.f_76_0 N) r
 rw [← fe_f_76_0 N]
 kernel_rfl
def sm_f_76 (N : Nat) : Summ := summOf [.bx (.pair (.slice tByte) tInt)] true [.d tBook true] [tBook, .pair (.slice tByte) tInt] (F.f_76 N)
theorem con_f_76 (N : Nat) : Contract Try.prog 131 (sm_f_76 N) := con_of (N := N) tabOK mixed (callOK_list (l := phiL_f_76 N) (allc rfl (con_f_38 N) (allc rfl (con_f_56 N) trivial))) (inl0_ok _) ok_f_76 (by decide) fun r => run_f_76 N r
def an_f_96 : Nat → Option Ann := fun _ => none
noncomputable def fi_f_96 : FI := ⟨Try.f73.results.toList, bodyOf Try.f73.body, Try.f73.ntmps, an_f_96⟩
theorem ok_f_96 : FnOK Try.prog 73 fi_f_96 := ⟨⟨Try.f73, Try.func73, by kernel_rfl, rfl, rfl, by kernel_rfl⟩, by kernel_rfl⟩
def phiL_f_96 (N : Nat) : List (Nat × Summ) := [(74, sm_f_38 N)]
def sg_f_96 : Summ := sigOf [.bx (.pair (.slice tByte) tInt), .d tBook true] true [.d tInt false]
def smG_f_96_f_38 (g_f_38 : Rdr → (Int) → Option ((Int) × Rdr)) : Summ := summOf [.bx (.pair (.slice tByte) tInt), .d tInt false] true [.d tInt false] [tInt, .pair (.slice tByte) tInt] g_f_38
def phiG_f_96 (g_f_38 : Rdr → (Int) → Option ((Int) × Rdr)) : List (Nat × Summ) := [(74, smG_f_96_f_38 g_f_38)]
theorem runG_f_96 (N : Nat) (g_f_38 : Rdr → (Int) → Option ((Int) × Rdr)) (r : Rdr) (b : Book) : runST (ofDs [tInt, .pair (.slice tByte) tInt]) (tabOf tabL) (tabS (phiG_f_96 g_f_38)) inl0 N fi_f_96 sg_f_96 [⟨.pair (.slice tByte) tInt, r⟩, ⟨tBook, b⟩] = F.f_96G g_f_38 r b := by kernel_rfl
theorem run_f_96 (N : Nat) (r : Rdr) (b : Book) : runST (ofDs [tInt, .pair (.slice tByte) tInt]) (tabOf tabL) (tabS (phiL_f_96 N)) inl0 N fi_f_96 sg_f_96 [⟨.pair (.slice tByte) tInt, r⟩, ⟨tBook, b⟩] = F.f_96 N r b := runG_f_96 N (F.f_38 N) r b
def sm_f_96 (N : Nat) : Summ := summOf [.bx (.pair (.slice tByte) tInt), .d tBook true] true [.d tInt false] [tInt, .pair (.slice tByte) tInt] (F.f_96 N)
theorem con_f_96 (N : Nat) : Contract Try.prog 73 (sm_f_96 N) := con_of (N := N) tabOK mixed (callOK_list (l := phiL_f_96 N) (allc rfl (con_f_38 N) trivial)) (inl0_ok _) ok_f_96 (by decide) fun r b => run_f_96 N r b
def an_f_73 : Nat → Option Ann
 | 0 => some ⟨⟨[(1, kp), (2, kp), (5, kp)], [(2, [kp, kp, kp, kp, kp])], []⟩, [(0, ⟨[], [], []⟩)], ⟨[(4, kp)], [], []⟩⟩
 | _ => none
noncomputable def fi_f_73 : FI := ⟨Try.f82.results.toList, bodyOf Try.f82.body, Try.f82.ntmps, an_f_73⟩
theorem ok_f_73 : FnOK Try.prog 82 fi_f_73 := ⟨⟨Try.f82, Try.func82, by kernel_rfl, rfl, rfl, by kernel_rfl⟩, by kernel_rfl⟩
def phiL_f_73 (N : Nat) : List (Nat × Summ) := []
def sg_f_73 : Summ := sigOf [.d tBook true, .d tInt false] false [.d tInt false]
def S_f_73_0 (b : Book) (number : Int) (i5 : Int) : St := ⟨[(1, vv tInt number), (2, vb 2), (5, vv tInt i5)], [(2, .box [.v tFoe.slice b.1, .v tSpot.slice b.2.1, .v tTxts b.2.2.1, .v tPart.slice b.2.2.2.1, .v tInt b.2.2.2.2])]⟩
noncomputable def E_f_73 (N : Nat) : Env := envOf (tabOf tabL) (tabS (phiL_f_73 N)) inl0 N fi_f_73 []
noncomputable def K_f_73 := (kFun (tabOf tabL) fi_f_73.res (kT (ofDs [tInt]) sg_f_73 []))
noncomputable def its_f_73_0 (N : Nat) (n : Nat) : St → Option Int := fun S' => iter [] (annAt fi_f_73 0) (code (E_f_73 N) (lpIn fi_f_73.body 0 0) 0) n S' (contOf (E_f_73 N) fi_f_73.body 0 0 K_f_73)
noncomputable def it_f_73_0 (N : Nat) (b : Book) (number : Int) (n : Nat) : Int → Option Int := fun i5 => its_f_73_0 N n (S_f_73_0 b number i5)
theorem fe_f_73_0 (N : Nat) : it_f_73_0 N = f_73_0 N := funext fun b => funext fun number => funext (lp_all (by kernel_rfl) fun n => by
 show _ = f_73_0r N b number (it_f_73_0 N b number n)
 kernel_rfl)
theorem run_f_73 (N : Nat) (b : Book) (number : Int) : runST (ofDs [tInt]) (tabOf tabL) (tabS (phiL_f_73 N)) inl0 N fi_f_73 sg_f_73 [⟨tBook, b⟩, ⟨tInt, number⟩] = F.f_73 N b number := by
 show _ = F.f_73b N (F.f_73_0 N) b number
 rw [← fe_f_73_0 N]
 kernel_rfl
def sm_f_73 (N : Nat) : Summ := summOf [.d tBook true, .d tInt false] false [.d tInt false] [tInt] (F.f_73 N)
theorem con_f_73 (N : Nat) : Contract Try.prog 82 (sm_f_73 N) := con_of (N := N) tabOK mixed (callOK_list (l := phiL_f_73 N) trivial) (inl0_ok _) ok_f_73 (by decide) fun b number => run_f_73 N b number
def an_f_63 : Nat → Option Ann
 | 0 => some ⟨⟨[(0, kp), (4, kp), (7, kp), (8, kp), (9, kp)], [(500000, [kp, kp]), (4, [kp, kp, kp, kp, kp])], []⟩, [(0, ⟨[(0, kp), (8, kp)], [(500000, [kp, kp])], []⟩)], ⟨[], [], []⟩⟩
 | _ => none
noncomputable def fi_f_63 : FI := ⟨Try.f76.results.toList, bodyOf Try.f76.body, Try.f76.ntmps, an_f_63⟩
theorem ok_f_63 : FnOK Try.prog 76 fi_f_63 := ⟨⟨Try.f76, Try.func76, by kernel_rfl, rfl, rfl, by kernel_rfl⟩, by kernel_rfl⟩
def phiL_f_63 (N : Nat) : List (Nat × Summ) := [(82, sm_f_73 N), (74, sm_f_38 N)]
def sg_f_63 : Summ := sigOf [.bx (.pair (.slice tByte) tInt), .d tBook true, .d tInt false] true [.d tInt false]
def S_f_63_0 (r : Rdr) (b : Book) (r_1 : Int) (most8 : Int) (i9 : Int) : St := ⟨[(0, vb 500000), (4, vb 4), (7, vv tInt r_1), (8, vv tInt most8), (9, vv tInt i9)], [(500000, .box [.v tByte.slice r.1, .v tInt r.2]), (4, .box [.v tFoe.slice b.1, .v tSpot.slice b.2.1, .v tTxts b.2.2.1, .v tPart.slice b.2.2.2.1, .v tInt b.2.2.2.2])]⟩
noncomputable def E_f_63 (N : Nat) : Env := envOf (tabOf tabL) (tabS (phiL_f_63 N)) inl0 N fi_f_63 [500000]
noncomputable def K_f_63 := (kFun (tabOf tabL) fi_f_63.res (kT (ofDs [tInt, .pair (.slice tByte) tInt]) sg_f_63 [(500000, .bx (.pair (.slice tByte) tInt))]))
noncomputable def its_f_63_0 (N : Nat) (n : Nat) : St → Option (Int × Rdr) := fun S' => iter [500000] (annAt fi_f_63 0) (code (E_f_63 N) (lpIn fi_f_63.body 0 0) 0) n S' (contOf (E_f_63 N) fi_f_63.body 0 0 K_f_63)
noncomputable def it_f_63_0 (N : Nat) (r : Rdr) (b : Book) (r_1 : Int) (n : Nat) : Int → Int → Option (Int × Rdr) := fun most8 i9 => its_f_63_0 N n (S_f_63_0 r b r_1 most8 i9)
theorem fe_f_63_0 (N : Nat) : it_f_63_0 N = f_63_0 N := funext fun r => funext fun b => funext fun r_1 => funext (lp_all (by kernel_rfl) fun n => by
 show _ = f_63_0r N r b r_1 (it_f_63_0 N r b r_1 n)
 kernel_rfl)
theorem run_f_63 (N : Nat) (r : Rdr) (b : Book) (number : Int) : runST (ofDs [tInt, .pair (.slice tByte) tInt]) (tabOf tabL) (tabS (phiL_f_63 N)) inl0 N fi_f_63 sg_f_63 [⟨.pair (.slice tByte) tInt, r⟩, ⟨tBook, b⟩, ⟨tInt, number⟩] = F.f_63 N r b number := by
 show _ = F.f_63b N (F.f_63_0 N) r b number
 rw [← fe_f_63_0 N]
 kernel_rfl
def sm_f_63 (N : Nat) : Summ := summOf [.bx (.pair (.slice tByte) tInt), .d tBook true, .d tInt false] true [.d tInt false] [tInt, .pair (.slice tByte) tInt] (F.f_63 N)
theorem con_f_63 (N : Nat) : Contract Try.prog 76 (sm_f_63 N) := con_of (N := N) tabOK mixed (callOK_list (l := phiL_f_63 N) (allc rfl (con_f_73 N) (allc rfl (con_f_38 N) trivial))) (inl0_ok _) ok_f_63 (by decide) fun r b number => run_f_63 N r b number
def an_f_51 : Nat → Option Ann
 | 0 => some ⟨⟨[(0, kp), (1, kp), (5, kp)], [], []⟩, [(0, ⟨[(0, kp), (1, kp), (5, kp)], [], []⟩)], ⟨[], [], []⟩⟩
 | _ => none
noncomputable def fi_f_51 : FI := ⟨Try.f143.results.toList, bodyOf Try.f143.body, Try.f143.ntmps, an_f_51⟩
theorem ok_f_51 : FnOK Try.prog 143 fi_f_51 := ⟨⟨Try.f143, Try.func143, by kernel_rfl, rfl, rfl, by kernel_rfl⟩, by kernel_rfl⟩
def phiL_f_51 (N : Nat) : List (Nat × Summ) := []
def sg_f_51 : Summ := sigOf [.d tTxts false, .d (.str) false] true [.d tTxts false]
def S_f_51_0 (list : List Txt) (name : Txt) (k5 : Int) : St := ⟨[(0, vv tTxts list), (1, vv Ty.str name), (5, vv tInt k5)], []⟩
noncomputable def E_f_51 (N : Nat) : Env := envOf (tabOf tabL) (tabS (phiL_f_51 N)) inl0 N fi_f_51 []
noncomputable def K_f_51 := (kFun (tabOf tabL) fi_f_51.res (kT (ofDs [tTxts]) sg_f_51 []))
noncomputable def its_f_51_0 (N : Nat) (n : Nat) : St → Option (List Txt) := fun S' => iter [] (annAt fi_f_51 0) (code (E_f_51 N) (lpIn fi_f_51.body 0 0) 0) n S' (contOf (E_f_51 N) fi_f_51.body 0 0 K_f_51)
noncomputable def it_f_51_0 (N : Nat) (list : List Txt) (name : Txt) (n : Nat) : Int → Option (List Txt) := fun k5 => its_f_51_0 N n (S_f_51_0 list name k5)
theorem fe_f_51_0 (N : Nat) : it_f_51_0 N = f_51_0 N := funext fun list => funext fun name => funext (lp_all (by kernel_rfl) fun n => by
 show _ = f_51_0r N list name (it_f_51_0 N list name n)
 kernel_rfl)
theorem run_f_51 (N : Nat) (list : List Txt) (name : Txt) : runST (ofDs [tTxts]) (tabOf tabL) (tabS (phiL_f_51 N)) inl0 N fi_f_51 sg_f_51 [⟨tTxts, list⟩, ⟨.str, name⟩] = F.f_51 N list name := by
 show _ = F.f_51b N (F.f_51_0 N) list name
 rw [← fe_f_51_0 N]
 kernel_rfl
def sm_f_51 (N : Nat) : Summ := summOf [.d tTxts false, .d (.str) false] true [.d tTxts false] [tTxts] (F.f_51 N)
theorem con_f_51 (N : Nat) : Contract Try.prog 143 (sm_f_51 N) := con_of (N := N) tabOK mixed (callOK_list (l := phiL_f_51 N) trivial) (inl0_ok _) ok_f_51 (by decide) fun list name => run_f_51 N list name
def an_f_80 : Nat → Option Ann
 | 0 => some ⟨⟨[(0, kp), (1, kp), (2, kp), (7, .own 700007 9 Ty.str), (8, kp)], [(500000, [kp, kp])], []⟩, [(0, ⟨[(7, .own 700007 9 Ty.str)], [(500000, [kp, kp])], []⟩)], ⟨[], [], []⟩⟩
 | _ => none
noncomputable def fi_f_80 : FI := ⟨Try.f144.results.toList, bodyOf Try.f144.body, Try.f144.ntmps, an_f_80⟩
theorem ok_f_80 : FnOK Try.prog 144 fi_f_80 := ⟨⟨Try.f144, Try.func144, by kernel_rfl, rfl, rfl, by kernel_rfl⟩, by kernel_rfl⟩
def phiL_f_80 (N : Nat) : List (Nat × Summ) := [(74, sm_f_38 N)]
def sg_f_80 : Summ := sigOf [.bx (.pair (.slice tByte) tInt), .d tTxts false, .d tInt false] true [.own tTxts false [(9, none)]]
def S_f_80_0 (list : List Txt) (most : Int) (i8 : Int) (rpc0 : List Int) (rpc1 : Int) (out7a : List Txt) : St := ⟨[(0, vb 500000), (1, vv tTxts list), (2, vv tInt most), (7, va 700007), (8, vv tInt i8)], [(500000, .box [.v tByte.slice rpc0, .v tInt rpc1]), (700007, .arr 9 Ty.str out7a)]⟩
noncomputable def E_f_80 (N : Nat) : Env := envOf (tabOf tabL) (tabS (phiL_f_80 N)) inl0 N fi_f_80 [500000]
noncomputable def K_f_80 := (kFun (tabOf tabL) fi_f_80.res (kT (ofDs [tTxts, .pair (.slice tByte) tInt]) sg_f_80 [(500000, .bx (.pair (.slice tByte) tInt))]))
noncomputable def its_f_80_0 (N : Nat) (n : Nat) : St → Option (List Txt × Rdr) := fun S' => iter [500000] (annAt fi_f_80 0) (code (E_f_80 N) (lpIn fi_f_80.body 0 0) 0) n S' (contOf (E_f_80 N) fi_f_80.body 0 0 K_f_80)
noncomputable def it_f_80_0 (N : Nat) (list : List Txt) (most : Int) (n : Nat) : Int → (List Int) → Int → (List Txt) → Option (List Txt × Rdr) := fun i8 rpc0 rpc1 out7a => its_f_80_0 N n (S_f_80_0 list most i8 rpc0 rpc1 out7a)
theorem fe_f_80_0 (N : Nat) : it_f_80_0 N = f_80_0 N := funext fun list => funext fun most => funext (lp_all (by kernel_rfl) fun n => by
 show _ = f_80_0r N list most (it_f_80_0 N list most n)
 kernel_rfl)
theorem run_f_80 (N : Nat) (r : Rdr) (list : List Txt) (most : Int) : runST (ofDs [tTxts, .pair (.slice tByte) tInt]) (tabOf tabL) (tabS (phiL_f_80 N)) inl0 N fi_f_80 sg_f_80 [⟨.pair (.slice tByte) tInt, r⟩, ⟨tTxts, list⟩, ⟨tInt, most⟩] = F.f_80 N r list most := by
 show _ = F.f_80b N (F.f_80_0 N) r list most
 rw [← fe_f_80_0 N]
 kernel_rfl
def sm_f_80 (N : Nat) : Summ := summOf [.bx (.pair (.slice tByte) tInt), .d tTxts false, .d tInt false] true [.own tTxts false [(9, none)]] [tTxts, .pair (.slice tByte) tInt] (F.f_80 N)
theorem con_f_80 (N : Nat) : Contract Try.prog 144 (sm_f_80 N) := con_of (N := N) tabOK mixed (callOK_list (l := phiL_f_80 N) (allc rfl (con_f_38 N) trivial)) (inl0_ok _) ok_f_80 (by decide) fun r list most => run_f_80 N r list most
def an_f_90 : Nat → Option Ann
 | 0 => some ⟨⟨[(0, kp), (1, kp), (5, kp)], [], []⟩, [(0, ⟨[], [], []⟩)], ⟨[(4, kp)], [], []⟩⟩
 | _ => none
noncomputable def fi_f_90 : FI := ⟨Try.f65.results.toList, bodyOf Try.f65.body, Try.f65.ntmps, an_f_90⟩
theorem ok_f_90 : FnOK Try.prog 65 fi_f_90 := ⟨⟨Try.f65, Try.func65, by kernel_rfl, rfl, rfl, by kernel_rfl⟩, by kernel_rfl⟩
def phiL_f_90 (N : Nat) : List (Nat × Summ) := []
def sg_f_90 : Summ := sigOf [.d tTxts false, .d (.str) false] false [.d (.bool) false]
def S_f_90_0 (list : List Txt) (name : Txt) (i5 : Int) : St := ⟨[(0, vv tTxts list), (1, vv Ty.str name), (5, vv tInt i5)], []⟩
noncomputable def E_f_90 (N : Nat) : Env := envOf (tabOf tabL) (tabS (phiL_f_90 N)) inl0 N fi_f_90 []
noncomputable def K_f_90 := (kFun (tabOf tabL) fi_f_90.res (kT (ofDs [.bool]) sg_f_90 []))
noncomputable def its_f_90_0 (N : Nat) (n : Nat) : St → Option Bool := fun S' => iter [] (annAt fi_f_90 0) (code (E_f_90 N) (lpIn fi_f_90.body 0 0) 0) n S' (contOf (E_f_90 N) fi_f_90.body 0 0 K_f_90)
noncomputable def it_f_90_0 (N : Nat) (list : List Txt) (name : Txt) (n : Nat) : Int → Option Bool := fun i5 => its_f_90_0 N n (S_f_90_0 list name i5)
theorem fe_f_90_0 (N : Nat) : it_f_90_0 N = f_90_0 N := funext fun list => funext fun name => funext (lp_all (by kernel_rfl) fun n => by
 show _ = f_90_0r N list name (it_f_90_0 N list name n)
 kernel_rfl)
theorem run_f_90 (N : Nat) (list : List Txt) (name : Txt) : runST (ofDs [.bool]) (tabOf tabL) (tabS (phiL_f_90 N)) inl0 N fi_f_90 sg_f_90 [⟨tTxts, list⟩, ⟨.str, name⟩] = F.f_90 N list name := by
 show _ = F.f_90b N (F.f_90_0 N) list name
 rw [← fe_f_90_0 N]
 kernel_rfl
def sm_f_90 (N : Nat) : Summ := summOf [.d tTxts false, .d (.str) false] false [.d (.bool) false] [.bool] (F.f_90 N)
theorem con_f_90 (N : Nat) : Contract Try.prog 65 (sm_f_90 N) := con_of (N := N) tabOK mixed (callOK_list (l := phiL_f_90 N) trivial) (inl0_ok _) ok_f_90 (by decide) fun list name => run_f_90 N list name
def an_f_79 : Nat → Option Ann
 | 0 => some ⟨⟨[(0, kp), (4, kp), (6, kp), (7, kp), (8, kp)], [(500000, [kp, kp]), (4, [kp, kp, kp, kp, kp]), (6, [kp, kp, kp, kp, kp, kp]), (7, [kp, kp, Dir.frz Ty.str, kp, kp, kp])], []⟩, [(0, ⟨[(0, kp), (4, kp), (6, kp), (7, kp)], [(500000, [kp, kp]), (4, [kp, kp, kp, kp, kp]), (6, [kp, kp, kp, kp, kp, kp]), (7, [kp, kp, Dir.frz Ty.str, kp, kp, kp])], []⟩)], ⟨[], [], []⟩⟩
 | 2 => some ⟨⟨[(0, kp), (4, kp), (6, kp), (7, kp), (8, kp), (9, kp)], [(500000, [kp, kp]), (4, [kp, kp, kp, kp, kp]), (6, [kp, kp, kp, kp, kp, kp]), (7, [kp, kp, Dir.frz Ty.str, kp, kp, kp])], []⟩, [(2, ⟨[(0, kp), (4, kp), (6, kp), (7, kp), (8, kp)], [(500000, [kp, kp]), (4, [kp, kp, kp, kp, kp]), (6, [kp, kp, kp, kp, kp, kp]), (7, [kp, kp, Dir.frz Ty.str, kp, kp, kp])], []⟩)], ⟨[], [], []⟩⟩
 | 4 => some ⟨⟨[(0, kp), (4, kp), (6, kp), (7, kp), (10, kp)], [(500000, [kp, kp]), (4, [kp, kp, kp, kp, kp]), (6, [kp, kp, kp, kp, kp, kp]), (7, [kp, kp, Dir.frz Ty.str, .own 1000703 75 tUse, kp, kp])], []⟩, [(4, ⟨[(0, kp), (4, kp), (6, kp), (7, kp)], [(500000, [kp, kp]), (4, [kp, kp, kp, kp, kp]), (6, [kp, kp, kp, kp, kp, kp]), (7, [kp, kp, Dir.frz Ty.str, .own 1000703 75 tUse, kp, kp])], []⟩)], ⟨[], [], []⟩⟩
 | 6 => some ⟨⟨[(0, kp), (4, kp), (6, kp), (7, kp), (10, kp), (11, kp), (12, kp)], [(500000, [kp, kp]), (4, [kp, kp, kp, kp, kp]), (6, [kp, kp, kp, kp, kp, kp]), (7, [kp, kp, Dir.frz Ty.str, .own 1000703 75 tUse, kp, kp]), (11, [kp, kp, kp])], []⟩, [(6, ⟨[(0, kp), (4, kp), (6, kp), (7, kp), (10, kp), (11, kp)], [(500000, [kp, kp]), (4, [kp, kp, kp, kp, kp]), (6, [kp, kp, kp, kp, kp, kp]), (7, [kp, kp, Dir.frz Ty.str, .own 1000703 75 tUse, kp, kp]), (11, [kp, kp, kp])], []⟩)], ⟨[], [], []⟩⟩
 | 8 => some ⟨⟨[(6, kp), (7, kp), (13, .own 700013 9 Ty.str), (14, kp)], [(500000, [kp, kp]), (6, [kp, kp, kp, kp, kp, kp]), (7, [kp, kp, Dir.frz Ty.str, .own 1000703 75 tUse, .own 1000704 9 Ty.str, .own 1000705 9 Ty.str])], []⟩, [(8, ⟨[(6, kp), (7, kp)], [(500000, [kp, kp]), (6, [kp, kp, kp, kp, kp, kp]), (7, [kp, kp, Dir.frz Ty.str, .own 1000703 75 tUse, .own 1000704 9 Ty.str, .own 1000705 9 Ty.str])], []⟩)], ⟨[], [], []⟩⟩
 | _ => none
noncomputable def fi_f_79 : FI := ⟨Try.f139.results.toList, bodyOf Try.f139.body, Try.f139.ntmps, an_f_79⟩
theorem ok_f_79 : FnOK Try.prog 139 fi_f_79 := ⟨⟨Try.f139, Try.func139, by kernel_rfl, rfl, rfl, by kernel_rfl⟩, by kernel_rfl⟩
def phiL_f_79 (N : Nat) : List (Nat × Summ) := [(74, sm_f_38 N), (134, sm_f_56 N), (143, sm_f_51 N), (144, sm_f_80 N), (65, sm_f_90 N)]
def sg_f_79 : Summ := sigOf [.bx (.pair (.slice tByte) tInt), .d tBook true, .d tInt false] true [.d tWant true]
def S_f_79_2 (b : Book) (number : Int) (t6c0 : Int) (t6c1 : Int) (w7c1 : Int) (i8 : Int) (r_3 : Int × Rdr) (k9 : Int) (w7c2_1 : List Txt) : St := ⟨[(0, vb 500000), (4, vb 4), (6, vb 6), (7, vb 7), (8, vv tInt i8), (9, vv tInt k9)], [(500000, .box [.v tByte.slice r_3.2.1, .v tInt r_3.2.2]), (4, .box [.v tFoe.slice b.1, .v tSpot.slice b.2.1, .v tTxts b.2.2.1, .v tPart.slice b.2.2.2.1, .v tInt b.2.2.2.2]), (6, .box [.v tInt t6c0, .v tInt t6c1, .emp, .emp, .emp, .emp]), (7, .box [.v tInt number, .v tInt w7c1, .v tTxts w7c2_1, .emp, .emp, .emp])]⟩
def S_f_79_6 (b : Book) (number : Int) (t6c0_2 : Int) (t6c1_2 : Int) (w7c1_2 : Int) (i10 : Int) (w7c3a : List Use) (u11c0 : Txt) (u11c1 : Int) (u11c2 : Int) (k12 : Int) (rpc0_3 : List Int) (rpc1_3 : Int) (w7c2_3 : List Txt) : St := ⟨[(0, vb 500000), (4, vb 4), (6, vb 6), (7, vb 7), (10, vv tInt i10), (11, vb 11), (12, vv tInt k12)], [(500000, .box [.v tByte.slice rpc0_3, .v tInt rpc1_3]), (4, .box [.v tFoe.slice b.1, .v tSpot.slice b.2.1, .v tTxts b.2.2.1, .v tPart.slice b.2.2.2.1, .v tInt b.2.2.2.2]), (6, .box [.v tInt t6c0_2, .v tInt t6c1_2, .emp, .emp, .emp, .emp]), (7, .box [.v tInt number, .v tInt w7c1_2, .v tTxts w7c2_3, .arr 1000703, .emp, .emp]), (11, .box [.v Ty.str u11c0, .v tInt u11c1, .v tInt u11c2]), (1000703, .arr 75 tUse w7c3a)]⟩
def S_f_79_8 (number : Int) (t6c0_2 : Int) (t6c1_2 : Int) (w7c1_2 : Int) (w7c2_2 : List Txt) (w7c3a : List Use) (r_10 : List Txt × Rdr) (r_11 : List Txt × Rdr) (i14 : Int) (w7c4a : List Txt) : St := ⟨[(6, vb 6), (7, vb 7), (13, va 700013), (14, vv tInt i14)], [(500000, .box [.v tByte.slice r_11.2.1, .v tInt r_11.2.2]), (6, .box [.v tInt t6c0_2, .v tInt t6c1_2, .emp, .emp, .emp, .emp]), (7, .box [.v tInt number, .v tInt w7c1_2, .v tTxts w7c2_2, .arr 1000703, .arr 1000704, .arr 1000705]), (700013, .arr 9 Ty.str r_11.1), (1000703, .arr 75 tUse w7c3a), (1000704, .arr 9 Ty.str w7c4a), (1000705, .arr 9 Ty.str r_10.1)]⟩
def S_f_79_4 (b : Book) (number : Int) (t6c0_2 : Int) (t6c1_2 : Int) (w7c1_2 : Int) (i10 : Int) (rpc0_2 : List Int) (rpc1_2 : Int) (w7c2_2 : List Txt) (w7c3a : List Use) : St := ⟨[(0, vb 500000), (4, vb 4), (6, vb 6), (7, vb 7), (10, vv tInt i10)], [(500000, .box [.v tByte.slice rpc0_2, .v tInt rpc1_2]), (4, .box [.v tFoe.slice b.1, .v tSpot.slice b.2.1, .v tTxts b.2.2.1, .v tPart.slice b.2.2.2.1, .v tInt b.2.2.2.2]), (6, .box [.v tInt t6c0_2, .v tInt t6c1_2, .emp, .emp, .emp, .emp]), (7, .box [.v tInt number, .v tInt w7c1_2, .v tTxts w7c2_2, .arr 1000703, .emp, .emp]), (1000703, .arr 75 tUse w7c3a)]⟩
def S_f_79_0 (b : Book) (number : Int) (t6c0 : Int) (t6c1 : Int) (w7c1 : Int) (i8 : Int) (rpc0 : List Int) (rpc1 : Int) (w7c2 : List Txt) : St := ⟨[(0, vb 500000), (4, vb 4), (6, vb 6), (7, vb 7), (8, vv tInt i8)], [(500000, .box [.v tByte.slice rpc0, .v tInt rpc1]), (4, .box [.v tFoe.slice b.1, .v tSpot.slice b.2.1, .v tTxts b.2.2.1, .v tPart.slice b.2.2.2.1, .v tInt b.2.2.2.2]), (6, .box [.v tInt t6c0, .v tInt t6c1, .emp, .emp, .emp, .emp]), (7, .box [.v tInt number, .v tInt w7c1, .v tTxts w7c2, .emp, .emp, .emp])]⟩
noncomputable def E_f_79 (N : Nat) : Env := envOf (tabOf tabL) (tabS (phiL_f_79 N)) inl0 N fi_f_79 [500000]
noncomputable def K_f_79 := (kFun (tabOf tabL) fi_f_79.res (kT (ofDs [tWant, .pair (.slice tByte) tInt]) sg_f_79 [(500000, .bx (.pair (.slice tByte) tInt))]))
noncomputable def its_f_79_2 (N : Nat) (nxS0 : St → Option (Want × Rdr)) (n : Nat) : St → Option (Want × Rdr) := fun S' => iter [500000] (annAt fi_f_79 2) (code (E_f_79 N) (lpIn (lpIn fi_f_79.body 0 0) 0 2) 2) n S' (contOf (E_f_79 N) (lpIn fi_f_79.body 0 0) 0 2 (kLoop [500000] (annAt fi_f_79 0) nxS0 (contOf (E_f_79 N) fi_f_79.body 0 0 K_f_79)))
noncomputable def it_f_79_2 (N : Nat) (nxS0 : St → Option (Want × Rdr)) (b : Book) (number : Int) (t6c0 : Int) (t6c1 : Int) (w7c1 : Int) (i8 : Int) (r_3 : Int × Rdr) (n : Nat) : Int → (List Txt) → Option (Want × Rdr) := fun k9 w7c2_1 => its_f_79_2 N nxS0 n (S_f_79_2 b number t6c0 t6c1 w7c1 i8 r_3 k9 w7c2_1)
theorem fe_f_79_2 (N : Nat) (nxS0 : St → Option (Want × Rdr)) (b : Book) (number : Int) (t6c0 : Int) (t6c1 : Int) (w7c1 : Int) : it_f_79_2 N nxS0 b number t6c0 t6c1 w7c1 = f_79_2 N (fun i8 rpc0 rpc1 w7c2 => nxS0 (S_f_79_0 b number t6c0 t6c1 w7c1 i8 rpc0 rpc1 w7c2)) b number t6c0 t6c1 w7c1 := funext fun i8 => funext fun r_3 => funext (lp_all (by kernel_rfl) fun n => by
 show _ = f_79_2r N (fun i8 rpc0 rpc1 w7c2 => nxS0 (S_f_79_0 b number t6c0 t6c1 w7c1 i8 rpc0 rpc1 w7c2)) b number t6c0 t6c1 w7c1 i8 r_3 (it_f_79_2 N nxS0 b number t6c0 t6c1 w7c1 i8 r_3 n)
 kernel_rfl)
noncomputable def its_f_79_6 (N : Nat) (nxS4 : St → Option (Want × Rdr)) (n : Nat) : St → Option (Want × Rdr) := fun S' => iter [500000] (annAt fi_f_79 6) (code (E_f_79 N) (lpIn (lpIn fi_f_79.body 0 4) 4 6) 6) n S' (contOf (E_f_79 N) (lpIn fi_f_79.body 0 4) 4 6 (kLoop [500000] (annAt fi_f_79 4) nxS4 (contOf (E_f_79 N) fi_f_79.body 0 4 K_f_79)))
noncomputable def it_f_79_6 (N : Nat) (nxS4 : St → Option (Want × Rdr)) (b : Book) (number : Int) (t6c0_2 : Int) (t6c1_2 : Int) (w7c1_2 : Int) (i10 : Int) (w7c3a : List Use) (u11c0 : Txt) (u11c1 : Int) (u11c2 : Int) (n : Nat) : Int → (List Int) → Int → (List Txt) → Option (Want × Rdr) := fun k12 rpc0_3 rpc1_3 w7c2_3 => its_f_79_6 N nxS4 n (S_f_79_6 b number t6c0_2 t6c1_2 w7c1_2 i10 w7c3a u11c0 u11c1 u11c2 k12 rpc0_3 rpc1_3 w7c2_3)
theorem fe_f_79_6 (N : Nat) (nxS4 : St → Option (Want × Rdr)) (b : Book) (number : Int) (t6c0_2 : Int) (t6c1_2 : Int) (w7c1_2 : Int) : it_f_79_6 N nxS4 b number t6c0_2 t6c1_2 w7c1_2 = f_79_6 N (fun i10 rpc0_2 rpc1_2 w7c2_2 w7c3a => nxS4 (S_f_79_4 b number t6c0_2 t6c1_2 w7c1_2 i10 rpc0_2 rpc1_2 w7c2_2 w7c3a)) b number t6c0_2 t6c1_2 w7c1_2 := funext fun i10 => funext fun w7c3a => funext fun u11c0 => funext fun u11c1 => funext fun u11c2 => funext (lp_all (by kernel_rfl) fun n => by
 show _ = f_79_6r N (fun i10 rpc0_2 rpc1_2 w7c2_2 w7c3a => nxS4 (S_f_79_4 b number t6c0_2 t6c1_2 w7c1_2 i10 rpc0_2 rpc1_2 w7c2_2 w7c3a)) b number t6c0_2 t6c1_2 w7c1_2 i10 w7c3a u11c0 u11c1 u11c2 (it_f_79_6 N nxS4 b number t6c0_2 t6c1_2 w7c1_2 i10 w7c3a u11c0 u11c1 u11c2 n)
 kernel_rfl)
noncomputable def its_f_79_8 (N : Nat) (n : Nat) : St → Option (Want × Rdr) := fun S' => iter [500000] (annAt fi_f_79 8) (code (E_f_79 N) (lpIn fi_f_79.body 0 8) 8) n S' (contOf (E_f_79 N) fi_f_79.body 0 8 K_f_79)
noncomputable def it_f_79_8 (N : Nat) (number : Int) (t6c0_2 : Int) (t6c1_2 : Int) (w7c1_2 : Int) (w7c2_2 : List Txt) (w7c3a : List Use) (r_10 : List Txt × Rdr) (r_11 : List Txt × Rdr) (n : Nat) : Int → (List Txt) → Option (Want × Rdr) := fun i14 w7c4a => its_f_79_8 N n (S_f_79_8 number t6c0_2 t6c1_2 w7c1_2 w7c2_2 w7c3a r_10 r_11 i14 w7c4a)
theorem fe_f_79_8 (N : Nat) : it_f_79_8 N = f_79_8 N := funext fun number => funext fun t6c0_2 => funext fun t6c1_2 => funext fun w7c1_2 => funext fun w7c2_2 => funext fun w7c3a => funext fun r_10 => funext fun r_11 => funext (lp_all (by kernel_rfl) fun n => by
 show _ = f_79_8r N number t6c0_2 t6c1_2 w7c1_2 w7c2_2 w7c3a r_10 r_11 (it_f_79_8 N number t6c0_2 t6c1_2 w7c1_2 w7c2_2 w7c3a r_10 r_11 n)
 kernel_rfl)
noncomputable def its_f_79_4 (N : Nat) (n : Nat) : St → Option (Want × Rdr) := fun S' => iter [500000] (annAt fi_f_79 4) (code (E_f_79 N) (lpIn fi_f_79.body 0 4) 4) n S' (contOf (E_f_79 N) fi_f_79.body 0 4 K_f_79)
noncomputable def it_f_79_4 (N : Nat) (b : Book) (number : Int) (t6c0_2 : Int) (t6c1_2 : Int) (w7c1_2 : Int) (n : Nat) : Int → (List Int) → Int → (List Txt) → (List Use) → Option (Want × Rdr) := fun i10 rpc0_2 rpc1_2 w7c2_2 w7c3a => its_f_79_4 N n (S_f_79_4 b number t6c0_2 t6c1_2 w7c1_2 i10 rpc0_2 rpc1_2 w7c2_2 w7c3a)
theorem fe_f_79_4 (N : Nat) : it_f_79_4 N = f_79_4 N := funext fun b => funext fun number => funext fun t6c0_2 => funext fun t6c1_2 => funext fun w7c1_2 => funext (lp_all (by kernel_rfl) fun n => by
 show _ = f_79_4r N (f_79_6 N (it_f_79_4 N b number t6c0_2 t6c1_2 w7c1_2 n) b number t6c0_2 t6c1_2 w7c1_2) (f_79_8 N) b number t6c0_2 t6c1_2 w7c1_2 (it_f_79_4 N b number t6c0_2 t6c1_2 w7c1_2 n)
 rw [show f_79_6 N (it_f_79_4 N b number t6c0_2 t6c1_2 w7c1_2 n) b number t6c0_2 t6c1_2 w7c1_2 = it_f_79_6 N (its_f_79_4 N n) b number t6c0_2 t6c1_2 w7c1_2 from (fe_f_79_6 N (its_f_79_4 N n) b number t6c0_2 t6c1_2 w7c1_2).symm]
 rw [show f_79_8 N = it_f_79_8 N from (fe_f_79_8 N).symm]
 kernel_rfl)
noncomputable def its_f_79_0 (N : Nat) (n : Nat) : St → Option (Want × Rdr) := fun S' => iter [500000] (annAt fi_f_79 0) (code (E_f_79 N) (lpIn fi_f_79.body 0 0) 0) n S' (contOf (E_f_79 N) fi_f_79.body 0 0 K_f_79)
noncomputable def it_f_79_0 (N : Nat) (b : Book) (number : Int) (t6c0 : Int) (t6c1 : Int) (w7c1 : Int) (n : Nat) : Int → (List Int) → Int → (List Txt) → Option (Want × Rdr) := fun i8 rpc0 rpc1 w7c2 => its_f_79_0 N n (S_f_79_0 b number t6c0 t6c1 w7c1 i8 rpc0 rpc1 w7c2)
theorem fe_f_79_0 (N : Nat) : it_f_79_0 N = f_79_0 N := funext fun b => funext fun number => funext fun t6c0 => funext fun t6c1 => funext fun w7c1 => funext (lp_all (by kernel_rfl) fun n => by
 show _ = f_79_0r N (f_79_2 N (it_f_79_0 N b number t6c0 t6c1 w7c1 n) b number t6c0 t6c1 w7c1) (f_79_4 N) b number t6c0 t6c1 w7c1 (it_f_79_0 N b number t6c0 t6c1 w7c1 n)
 rw [show f_79_2 N (it_f_79_0 N b number t6c0 t6c1 w7c1 n) b number t6c0 t6c1 w7c1 = it_f_79_2 N (its_f_79_0 N n) b number t6c0 t6c1 w7c1 from (fe_f_79_2 N (its_f_79_0 N n) b number t6c0 t6c1 w7c1).symm]
 rw [show f_79_4 N = it_f_79_4 N from (fe_f_79_4 N).symm]
 kernel_rfl)
theorem run_f_79 (N : Nat) (r : Rdr) (b : Book) (number : Int) : runST (ofDs [tWant, .pair (.slice tByte) tInt]) (tabOf tabL) (tabS (phiL_f_79 N)) inl0 N fi_f_79 sg_f_79 [⟨.pair (.slice tByte) tInt, r⟩, ⟨tBook, b⟩, ⟨tInt, number⟩] = F.f_79 N r b number := by
 show _ = F.f_79b N (F.f_79_0 N) (F.f_79_4 N) r b number
 rw [← fe_f_79_0 N]
 rw [← fe_f_79_4 N]
 kernel_rfl
def sm_f_79 (N : Nat) : Summ := summOf [.bx (.pair (.slice tByte) tInt), .d tBook true, .d tInt false] true [.d tWant true] [tWant, .pair (.slice tByte) tInt] (F.f_79 N)
theorem con_f_79 (N : Nat) : Contract Try.prog 139 (sm_f_79 N) := con_of (N := N) tabOK mixed (callOK_list (l := phiL_f_79 N) (allc rfl (con_f_38 N) (allc rfl (con_f_56 N) (allc rfl (con_f_51 N) (allc rfl (con_f_80 N) (allc rfl (con_f_90 N) trivial)))))) (inl0_ok _) ok_f_79 (by decide) fun r b number => run_f_79 N r b number
def an_f_55 : Nat → Option Ann := fun _ => none
noncomputable def fi_f_55 : FI := ⟨Try.f123.results.toList, bodyOf Try.f123.body, Try.f123.ntmps, an_f_55⟩
theorem ok_f_55 : FnOK Try.prog 123 fi_f_55 := ⟨⟨Try.f123, Try.func123, by kernel_rfl, rfl, rfl, by kernel_rfl⟩, by kernel_rfl⟩
def phiL_f_55 (N : Nat) : List (Nat × Summ) := []
def sg_f_55 : Summ := sigOf [.d tTxts false] false [.own tTxts false [(9, none)]]
theorem run_f_55 (N : Nat) (list : List Txt) : runST (ofDs [tTxts]) (tabOf tabL) (tabS (phiL_f_55 N)) inl0 N fi_f_55 sg_f_55 [⟨tTxts, list⟩] = F.f_55 N list := by kernel_rfl
def sm_f_55 (N : Nat) : Summ := summOf [.d tTxts false] false [.own tTxts false [(9, none)]] [tTxts] (F.f_55 N)
theorem con_f_55 (N : Nat) : Contract Try.prog 123 (sm_f_55 N) := con_of (N := N) tabOK mixed (callOK_list (l := phiL_f_55 N) trivial) (inl0_ok _) ok_f_55 (by decide) fun list => run_f_55 N list
def an_f_70 : Nat → Option Ann := fun _ => none
noncomputable def fi_f_70 : FI := ⟨Try.f124.results.toList, bodyOf Try.f124.body, Try.f124.ntmps, an_f_70⟩
theorem ok_f_70 : FnOK Try.prog 124 fi_f_70 := ⟨⟨Try.f124, Try.func124, by kernel_rfl, rfl, rfl, by kernel_rfl⟩, by kernel_rfl⟩
def phiL_f_70 (N : Nat) : List (Nat × Summ) := [(123, sm_f_55 N)]
def sg_f_70 : Summ := sigOf [.d tWant true] false [.own tWant true [(9, none), (75, none), (9, none), (9, none)]]
theorem run_f_70 (N : Nat) (w : Want) : runST (ofDs [tWant]) (tabOf tabL) (tabS (phiL_f_70 N)) inl0 N fi_f_70 sg_f_70 [⟨tWant, w⟩] = F.f_70 N w := by kernel_rfl
def sm_f_70 (N : Nat) : Summ := summOf [.d tWant true] false [.own tWant true [(9, none), (75, none), (9, none), (9, none)]] [tWant] (F.f_70 N)
theorem con_f_70 (N : Nat) : Contract Try.prog 124 (sm_f_70 N) := con_of (N := N) tabOK mixed (callOK_list (l := phiL_f_70 N) (allc rfl (con_f_55 N) trivial)) (inl0_ok _) ok_f_70 (by decide) fun w => run_f_70 N w
def an_f_93 : Nat → Option Ann := fun _ => none
noncomputable def fi_f_93 : FI := ⟨Try.f140.results.toList, bodyOf Try.f140.body, Try.f140.ntmps, an_f_93⟩
theorem ok_f_93 : FnOK Try.prog 140 fi_f_93 := ⟨⟨Try.f140, Try.func140, by kernel_rfl, rfl, rfl, by kernel_rfl⟩, by kernel_rfl⟩
def smF_f_93 (N m : Nat) : Summ := summOf [.d tInt false] false [.d (.str) false] [.str] (F.f_93F N m)
def sm_f_93 (N : Nat) : Summ := summOf [.d tInt false] false [.d (.str) false] [.str] (F.f_93 N)
def phiL0_f_93 (N : Nat) : List (Nat × Summ) := []
def phiL1_f_93 (N m : Nat) : List (Nat × Summ) := [(140, smF_f_93 N m)]
def sg_f_93 : Summ := sigOf [.d tInt false] false [.d (.str) false]
theorem run0_f_93 (N : Nat) (n : Int) : runST (ofDs [.str]) (tabOf tabL) (tabS (phiL0_f_93 N)) inl0 N fi_f_93 sg_f_93 [⟨tInt, n⟩] = F.f_93F N 0 n := by kernel_rfl
theorem run1_f_93 (N m : Nat) (n : Int) : runST (ofDs [.str]) (tabOf tabL) (tabS (phiL1_f_93 N m)) inl0 N fi_f_93 sg_f_93 [⟨tInt, n⟩] = F.f_93F N (m + 1) n := by kernel_rfl
theorem conF_f_93 (N : Nat) : ∀ m, Contract Try.prog 140 (smF_f_93 N m)
 | 0 => con_of (N := N) tabOK mixed (callOK_list (l := phiL0_f_93 N) trivial) (inl0_ok _) ok_f_93 (by decide) fun n => run0_f_93 N n
 | m + 1 => con_of (N := N) tabOK mixed (callOK_list (l := phiL1_f_93 N m) (allc rfl (conF_f_93 N m) trivial)) (inl0_ok _) ok_f_93 (by decide) fun n => run1_f_93 N m n
theorem con_f_93 (N : Nat) : Contract Try.prog 140 (sm_f_93 N) := conF_f_93 N 64
def an_f_29 : Nat → Option Ann
 | 1 => some ⟨⟨[(4, kp), (5, kp), (6, kp), (7, kp)], [(500000, [kp, kp]), (4, [kp, kp, kp, kp, kp, kp]), (5, [kp, kp, .own 1000502 9 Ty.str, .own 1000503 75 tUse, .own 1000504 9 Ty.str, .own 1000505 9 Ty.str])], []⟩, [(1, ⟨[(4, kp), (5, kp)], [(500000, [kp, kp]), (4, [kp, kp, kp, kp, kp, kp]), (5, [kp, kp, .own 1000502 9 Ty.str, .own 1000503 75 tUse, .own 1000504 9 Ty.str, .own 1000505 9 Ty.str])], []⟩)], ⟨[], [], []⟩⟩
 | _ => none
noncomputable def fi_f_29 : FI := ⟨Try.f135.results.toList, bodyOf Try.f135.body, Try.f135.ntmps, an_f_29⟩
theorem ok_f_29 : FnOK Try.prog 135 fi_f_29 := ⟨⟨Try.f135, Try.func135, by kernel_rfl, rfl, rfl, by kernel_rfl⟩, by kernel_rfl⟩
def phiL_f_29 (N : Nat) : List (Nat × Summ) := [(124, sm_f_70 N), (74, sm_f_38 N), (134, sm_f_56 N), (140, sm_f_93 N)]
def sg_f_29 : Summ := sigOf [.bx (.pair (.slice tByte) tInt), .d tWant true] true [.d tWant true]
def S_f_29_1 (r_1 : Want) (r_13 : Int × Rdr) (n6 : Int) (t4c0 : Int) (t4c1 : Int) (i7 : Int) (x5c5a : List Txt) : St := ⟨[(4, vb 4), (5, vb 5), (6, vv tInt n6), (7, vv tInt i7)], [(500000, .box [.v tByte.slice r_13.2.1, .v tInt r_13.2.2]), (4, .box [.v tInt t4c0, .v tInt t4c1, .emp, .emp, .emp, .emp]), (5, .box [.v tInt r_1.1, .v tInt r_1.2.1, .arr 1000502, .arr 1000503, .arr 1000504, .arr 1000505]), (1000502, .arr 9 Ty.str r_1.2.2.1), (1000503, .arr 75 tUse r_1.2.2.2.1), (1000504, .arr 9 Ty.str r_1.2.2.2.2.1), (1000505, .arr 9 Ty.str x5c5a)]⟩
noncomputable def E_f_29 (N : Nat) : Env := envOf (tabOf tabL) (tabS (phiL_f_29 N)) inl0 N fi_f_29 [500000]
noncomputable def K_f_29 := (kFun (tabOf tabL) fi_f_29.res (kT (ofDs [tWant, .pair (.slice tByte) tInt]) sg_f_29 [(500000, .bx (.pair (.slice tByte) tInt))]))
noncomputable def its_f_29_1 (N : Nat) (n : Nat) : St → Option (Want × Rdr) := fun S' => iter [500000] (annAt fi_f_29 1) (code (E_f_29 N) (lpIn fi_f_29.body 0 1) 1) n S' (contOf (E_f_29 N) fi_f_29.body 0 1 K_f_29)
noncomputable def it_f_29_1 (N : Nat) (r_1 : Want) (r_13 : Int × Rdr) (n6 : Int) (t4c0 : Int) (t4c1 : Int) (n : Nat) : Int → (List Txt) → Option (Want × Rdr) := fun i7 x5c5a => its_f_29_1 N n (S_f_29_1 r_1 r_13 n6 t4c0 t4c1 i7 x5c5a)
theorem fe_f_29_1 (N : Nat) : it_f_29_1 N = f_29_1 N := funext fun r_1 => funext fun r_13 => funext fun n6 => funext fun t4c0 => funext fun t4c1 => funext (lp_all (by kernel_rfl) fun n => by
 show _ = f_29_1r N r_1 r_13 n6 t4c0 t4c1 (it_f_29_1 N r_1 r_13 n6 t4c0 t4c1 n)
 kernel_rfl)
theorem run_f_29 (N : Nat) (r : Rdr) (w : Want) : runST (ofDs [tWant, .pair (.slice tByte) tInt]) (tabOf tabL) (tabS (phiL_f_29 N)) inl0 N fi_f_29 sg_f_29 [⟨.pair (.slice tByte) tInt, r⟩, ⟨tWant, w⟩] = F.f_29 N r w := by
 show _ = F.f_29b N (F.f_29_1 N) r w
 rw [← fe_f_29_1 N]
 kernel_rfl
def sm_f_29 (N : Nat) : Summ := summOf [.bx (.pair (.slice tByte) tInt), .d tWant true] true [.d tWant true] [tWant, .pair (.slice tByte) tInt] (F.f_29 N)
theorem con_f_29 (N : Nat) : Contract Try.prog 135 (sm_f_29 N) := con_of (N := N) tabOK mixed (callOK_list (l := phiL_f_29 N) (allc rfl (con_f_70 N) (allc rfl (con_f_38 N) (allc rfl (con_f_56 N) (allc rfl (con_f_93 N) trivial))))) (inl0_ok _) ok_f_29 (by decide) fun r w => run_f_29 N r w
def an_f_78 : Nat → Option Ann := fun _ => none
noncomputable def fi_f_78 : FI := ⟨Try.f133.results.toList, bodyOf Try.f133.body, Try.f133.ntmps, an_f_78⟩
theorem ok_f_78 : FnOK Try.prog 133 fi_f_78 := ⟨⟨Try.f133, Try.func133, by kernel_rfl, rfl, rfl, by kernel_rfl⟩, by kernel_rfl⟩
def phiL_f_78 (N : Nat) : List (Nat × Summ) := [(74, sm_f_38 N), (73, sm_f_96 N), (76, sm_f_63 N), (139, sm_f_79 N), (135, sm_f_29 N), (124, sm_f_70 N)]
def sg_f_78 : Summ := sigOf [.bx (.pair (.slice tByte) tInt), .d tBook true] true [.d tDo true]
theorem run_f_78 (N : Nat) (r : Rdr) (b : Book) : runST (ofDs [tDo, .pair (.slice tByte) tInt]) (tabOf tabL) (tabS (phiL_f_78 N)) inl0 N fi_f_78 sg_f_78 [⟨.pair (.slice tByte) tInt, r⟩, ⟨tBook, b⟩] = F.f_78 N r b := by kernel_rfl
def sm_f_78 (N : Nat) : Summ := summOf [.bx (.pair (.slice tByte) tInt), .d tBook true] true [.d tDo true] [tDo, .pair (.slice tByte) tInt] (F.f_78 N)
theorem con_f_78 (N : Nat) : Contract Try.prog 133 (sm_f_78 N) := con_of (N := N) tabOK mixed (callOK_list (l := phiL_f_78 N) (allc rfl (con_f_38 N) (allc rfl (con_f_96 N) (allc rfl (con_f_63 N) (allc rfl (con_f_79 N) (allc rfl (con_f_29 N) (allc rfl (con_f_70 N) trivial))))))) (inl0_ok _) ok_f_78 (by decide) fun r b => run_f_78 N r b
def an_f_95 : Nat → Option Ann := fun _ => none
noncomputable def fi_f_95 : FI := ⟨Try.f36.results.toList, bodyOf Try.f36.body, Try.f36.ntmps, an_f_95⟩
theorem ok_f_95 : FnOK Try.prog 36 fi_f_95 := ⟨⟨Try.f36, Try.func36, by kernel_rfl, rfl, rfl, by kernel_rfl⟩, by kernel_rfl⟩
def phiL_f_95 (N : Nat) : List (Nat × Summ) := []
def sg_f_95 : Summ := sigOf [.d tInt false, .d tInt false, .d tInt false] false [.d (.bool) false]
theorem run_f_95 (N : Nat) (n : Int) (low : Int) (high : Int) : runST (ofDs [.bool]) (tabOf tabL) (tabS (phiL_f_95 N)) inl0 N fi_f_95 sg_f_95 [⟨tInt, n⟩, ⟨tInt, low⟩, ⟨tInt, high⟩] = F.f_95 N n low high := by kernel_rfl
def sm_f_95 (N : Nat) : Summ := summOf [.d tInt false, .d tInt false, .d tInt false] false [.d (.bool) false] [.bool] (F.f_95 N)
theorem con_f_95 (N : Nat) : Contract Try.prog 36 (sm_f_95 N) := con_of (N := N) tabOK mixed (callOK_list (l := phiL_f_95 N) trivial) (inl0_ok _) ok_f_95 (by decide) fun n low high => run_f_95 N n low high
def an_f_46 : Nat → Option Ann
 | 0 => some ⟨⟨[(0, kp), (3, kp)], [], []⟩, [(0, ⟨[], [], []⟩)], ⟨[(2, kp)], [], []⟩⟩
 | _ => none
noncomputable def fi_f_46 : FI := ⟨Try.f88.results.toList, bodyOf Try.f88.body, Try.f88.ntmps, an_f_46⟩
theorem ok_f_46 : FnOK Try.prog 88 fi_f_46 := ⟨⟨Try.f88, Try.func88, by kernel_rfl, rfl, rfl, by kernel_rfl⟩, by kernel_rfl⟩
def phiL_f_46 (N : Nat) : List (Nat × Summ) := [(36, sm_f_95 N)]
def sg_f_46 : Summ := sigOf [.d (.str) false] false [.d (.bool) false]
def S_f_46_0 (s : Txt) (i3 : Int) : St := ⟨[(0, vv Ty.str s), (3, vv tInt i3)], []⟩
noncomputable def E_f_46 (N : Nat) : Env := envOf (tabOf tabL) (tabS (phiL_f_46 N)) inl0 N fi_f_46 []
noncomputable def K_f_46 := (kFun (tabOf tabL) fi_f_46.res (kT (ofDs [.bool]) sg_f_46 []))
noncomputable def its_f_46_0 (N : Nat) (n : Nat) : St → Option Bool := fun S' => iter [] (annAt fi_f_46 0) (code (E_f_46 N) (lpIn fi_f_46.body 0 0) 0) n S' (contOf (E_f_46 N) fi_f_46.body 0 0 K_f_46)
noncomputable def it_f_46_0 (N : Nat) (s : Txt) (n : Nat) : Int → Option Bool := fun i3 => its_f_46_0 N n (S_f_46_0 s i3)
theorem fe_f_46_0 (N : Nat) : it_f_46_0 N = f_46_0 N := funext fun s => funext (lp_all (by kernel_rfl) fun n => by
 show _ = f_46_0r N s (it_f_46_0 N s n)
 kernel_rfl)
theorem run_f_46 (N : Nat) (s : Txt) : runST (ofDs [.bool]) (tabOf tabL) (tabS (phiL_f_46 N)) inl0 N fi_f_46 sg_f_46 [⟨.str, s⟩] = F.f_46 N s := by
 show _ = F.f_46b N (F.f_46_0 N) s
 rw [← fe_f_46_0 N]
 kernel_rfl
def sm_f_46 (N : Nat) : Summ := summOf [.d (.str) false] false [.d (.bool) false] [.bool] (F.f_46 N)
theorem con_f_46 (N : Nat) : Contract Try.prog 88 (sm_f_46 N) := con_of (N := N) tabOK mixed (callOK_list (l := phiL_f_46 N) (allc rfl (con_f_95 N) trivial)) (inl0_ok _) ok_f_46 (by decide) fun s => run_f_46 N s
def an_f_48 : Nat → Option Ann
 | 0 => some ⟨⟨[(1, kp), (3, kp)], [(1, [kp, kp, kp, kp, kp])], []⟩, [(0, ⟨[], [], []⟩)], ⟨[(2, kp)], [], []⟩⟩
 | _ => none
noncomputable def fi_f_48 : FI := ⟨Try.f51.results.toList, bodyOf Try.f51.body, Try.f51.ntmps, an_f_48⟩
theorem ok_f_48 : FnOK Try.prog 51 fi_f_48 := ⟨⟨Try.f51, Try.func51, by kernel_rfl, rfl, rfl, by kernel_rfl⟩, by kernel_rfl⟩
def phiL_f_48 (N : Nat) : List (Nat × Summ) := [(88, sm_f_46 N)]
def sg_f_48 : Summ := sigOf [.d tBook true] false [.d (.bool) false]
def S_f_48_0 (b : Book) (i3 : Int) : St := ⟨[(1, vb 1), (3, vv tInt i3)], [(1, .box [.v tFoe.slice b.1, .v tSpot.slice b.2.1, .v tTxts b.2.2.1, .v tPart.slice b.2.2.2.1, .v tInt b.2.2.2.2])]⟩
noncomputable def E_f_48 (N : Nat) : Env := envOf (tabOf tabL) (tabS (phiL_f_48 N)) inl0 N fi_f_48 []
noncomputable def K_f_48 := (kFun (tabOf tabL) fi_f_48.res (kT (ofDs [.bool]) sg_f_48 []))
noncomputable def its_f_48_0 (N : Nat) (n : Nat) : St → Option Bool := fun S' => iter [] (annAt fi_f_48 0) (code (E_f_48 N) (lpIn fi_f_48.body 0 0) 0) n S' (contOf (E_f_48 N) fi_f_48.body 0 0 K_f_48)
noncomputable def it_f_48_0 (N : Nat) (b : Book) (n : Nat) : Int → Option Bool := fun i3 => its_f_48_0 N n (S_f_48_0 b i3)
theorem fe_f_48_0 (N : Nat) : it_f_48_0 N = f_48_0 N := funext fun b => funext (lp_all (by kernel_rfl) fun n => by
 show _ = f_48_0r N b (it_f_48_0 N b n)
 kernel_rfl)
theorem run_f_48 (N : Nat) (b : Book) : runST (ofDs [.bool]) (tabOf tabL) (tabS (phiL_f_48 N)) inl0 N fi_f_48 sg_f_48 [⟨tBook, b⟩] = F.f_48 N b := by
 show _ = F.f_48b N (F.f_48_0 N) b
 rw [← fe_f_48_0 N]
 kernel_rfl
def sm_f_48 (N : Nat) : Summ := summOf [.d tBook true] false [.d (.bool) false] [.bool] (F.f_48 N)
theorem con_f_48 (N : Nat) : Contract Try.prog 51 (sm_f_48 N) := con_of (N := N) tabOK mixed (callOK_list (l := phiL_f_48 N) (allc rfl (con_f_46 N) trivial)) (inl0_ok _) ok_f_48 (by decide) fun b => run_f_48 N b
def an_f_37 : Nat → Option Ann
 | 0 => some ⟨⟨[(0, kp), (5, kp)], [], []⟩, [(0, ⟨[], [], []⟩)], ⟨[(4, kp)], [], []⟩⟩
 | _ => none
noncomputable def fi_f_37 : FI := ⟨Try.f38.results.toList, bodyOf Try.f38.body, Try.f38.ntmps, an_f_37⟩
theorem ok_f_37 : FnOK Try.prog 38 fi_f_37 := ⟨⟨Try.f38, Try.func38, by kernel_rfl, rfl, rfl, by kernel_rfl⟩, by kernel_rfl⟩
def phiL_f_37 (N : Nat) : List (Nat × Summ) := [(88, sm_f_46 N)]
def sg_f_37 : Summ := sigOf [.d tTxts false, .d tInt false] false [.d (.bool) false]
def S_f_37_0 (list : List Txt) (i5 : Int) : St := ⟨[(0, vv tTxts list), (5, vv tInt i5)], []⟩
noncomputable def E_f_37 (N : Nat) : Env := envOf (tabOf tabL) (tabS (phiL_f_37 N)) inl0 N fi_f_37 []
noncomputable def K_f_37 := (kFun (tabOf tabL) fi_f_37.res (kT (ofDs [.bool]) sg_f_37 []))
noncomputable def its_f_37_0 (N : Nat) (n : Nat) : St → Option Bool := fun S' => iter [] (annAt fi_f_37 0) (code (E_f_37 N) (lpIn fi_f_37.body 0 0) 0) n S' (contOf (E_f_37 N) fi_f_37.body 0 0 K_f_37)
noncomputable def it_f_37_0 (N : Nat) (list : List Txt) (n : Nat) : Int → Option Bool := fun i5 => its_f_37_0 N n (S_f_37_0 list i5)
theorem fe_f_37_0 (N : Nat) : it_f_37_0 N = f_37_0 N := funext fun list => funext (lp_all (by kernel_rfl) fun n => by
 show _ = f_37_0r N list (it_f_37_0 N list n)
 kernel_rfl)
theorem run_f_37 (N : Nat) (list : List Txt) (most : Int) : runST (ofDs [.bool]) (tabOf tabL) (tabS (phiL_f_37 N)) inl0 N fi_f_37 sg_f_37 [⟨tTxts, list⟩, ⟨tInt, most⟩] = F.f_37 N list most := by
 show _ = F.f_37b N (F.f_37_0 N) list most
 rw [← fe_f_37_0 N]
 kernel_rfl
def sm_f_37 (N : Nat) : Summ := summOf [.d tTxts false, .d tInt false] false [.d (.bool) false] [.bool] (F.f_37 N)
theorem con_f_37 (N : Nat) : Contract Try.prog 38 (sm_f_37 N) := con_of (N := N) tabOK mixed (callOK_list (l := phiL_f_37 N) (allc rfl (con_f_46 N) trivial)) (inl0_ok _) ok_f_37 (by decide) fun list most => run_f_37 N list most
def an_f_72 : Nat → Option Ann
 | 0 => some ⟨⟨[(1, kp), (2, kp), (3, kp), (7, kp)], [(3, [kp, kp, kp, kp, kp])], []⟩, [(0, ⟨[], [], []⟩)], ⟨[(6, kp)], [], []⟩⟩
 | _ => none
noncomputable def fi_f_72 : FI := ⟨Try.f126.results.toList, bodyOf Try.f126.body, Try.f126.ntmps, an_f_72⟩
theorem ok_f_72 : FnOK Try.prog 126 fi_f_72 := ⟨⟨Try.f126, Try.func126, by kernel_rfl, rfl, rfl, by kernel_rfl⟩, by kernel_rfl⟩
def phiL_f_72 (N : Nat) : List (Nat × Summ) := []
def sg_f_72 : Summ := sigOf [.d tBook true, .d (.str) false, .d (.str) false] false [.d (.bool) false]
def S_f_72_0 (b : Book) (x : Txt) (y : Txt) (i7 : Int) : St := ⟨[(1, vv Ty.str x), (2, vv Ty.str y), (3, vb 3), (7, vv tInt i7)], [(3, .box [.v tFoe.slice b.1, .v tSpot.slice b.2.1, .v tTxts b.2.2.1, .v tPart.slice b.2.2.2.1, .v tInt b.2.2.2.2])]⟩
noncomputable def E_f_72 (N : Nat) : Env := envOf (tabOf tabL) (tabS (phiL_f_72 N)) inl0 N fi_f_72 []
noncomputable def K_f_72 := (kFun (tabOf tabL) fi_f_72.res (kT (ofDs [.bool]) sg_f_72 []))
noncomputable def its_f_72_0 (N : Nat) (n : Nat) : St → Option Bool := fun S' => iter [] (annAt fi_f_72 0) (code (E_f_72 N) (lpIn fi_f_72.body 0 0) 0) n S' (contOf (E_f_72 N) fi_f_72.body 0 0 K_f_72)
noncomputable def it_f_72_0 (N : Nat) (b : Book) (x : Txt) (y : Txt) (n : Nat) : Int → Option Bool := fun i7 => its_f_72_0 N n (S_f_72_0 b x y i7)
theorem fe_f_72_0 (N : Nat) : it_f_72_0 N = f_72_0 N := funext fun b => funext fun x => funext fun y => funext (lp_all (by kernel_rfl) fun n => by
 show _ = f_72_0r N b x y (it_f_72_0 N b x y n)
 kernel_rfl)
theorem run_f_72 (N : Nat) (b : Book) (x : Txt) (y : Txt) : runST (ofDs [.bool]) (tabOf tabL) (tabS (phiL_f_72 N)) inl0 N fi_f_72 sg_f_72 [⟨tBook, b⟩, ⟨.str, x⟩, ⟨.str, y⟩] = F.f_72 N b x y := by
 show _ = F.f_72b N (F.f_72_0 N) b x y
 rw [← fe_f_72_0 N]
 kernel_rfl
def sm_f_72 (N : Nat) : Summ := summOf [.d tBook true, .d (.str) false, .d (.str) false] false [.d (.bool) false] [.bool] (F.f_72 N)
theorem con_f_72 (N : Nat) : Contract Try.prog 126 (sm_f_72 N) := con_of (N := N) tabOK mixed (callOK_list (l := phiL_f_72 N) trivial) (inl0_ok _) ok_f_72 (by decide) fun b x y => run_f_72 N b x y
def an_f_58 : Nat → Option Ann
 | 0 => some ⟨⟨[(1, kp), (2, kp), (3, kp), (7, kp)], [(3, [kp, kp, kp, kp, kp])], []⟩, [(0, ⟨[], [], []⟩)], ⟨[(6, kp)], [], []⟩⟩
 | _ => none
noncomputable def fi_f_58 : FI := ⟨Try.f96.results.toList, bodyOf Try.f96.body, Try.f96.ntmps, an_f_58⟩
theorem ok_f_58 : FnOK Try.prog 96 fi_f_58 := ⟨⟨Try.f96, Try.func96, by kernel_rfl, rfl, rfl, by kernel_rfl⟩, by kernel_rfl⟩
def phiL_f_58 (N : Nat) : List (Nat × Summ) := [(126, sm_f_72 N)]
def sg_f_58 : Summ := sigOf [.d tBook true, .d (.str) false, .d tTxts false] false [.d (.bool) false]
def S_f_58_0 (b : Book) (stuff : Txt) (may : List Txt) (i7 : Int) : St := ⟨[(1, vv Ty.str stuff), (2, vv tTxts may), (3, vb 3), (7, vv tInt i7)], [(3, .box [.v tFoe.slice b.1, .v tSpot.slice b.2.1, .v tTxts b.2.2.1, .v tPart.slice b.2.2.2.1, .v tInt b.2.2.2.2])]⟩
noncomputable def E_f_58 (N : Nat) : Env := envOf (tabOf tabL) (tabS (phiL_f_58 N)) inl0 N fi_f_58 []
noncomputable def K_f_58 := (kFun (tabOf tabL) fi_f_58.res (kT (ofDs [.bool]) sg_f_58 []))
noncomputable def its_f_58_0 (N : Nat) (n : Nat) : St → Option Bool := fun S' => iter [] (annAt fi_f_58 0) (code (E_f_58 N) (lpIn fi_f_58.body 0 0) 0) n S' (contOf (E_f_58 N) fi_f_58.body 0 0 K_f_58)
noncomputable def it_f_58_0 (N : Nat) (b : Book) (stuff : Txt) (may : List Txt) (n : Nat) : Int → Option Bool := fun i7 => its_f_58_0 N n (S_f_58_0 b stuff may i7)
theorem fe_f_58_0 (N : Nat) : it_f_58_0 N = f_58_0 N := funext fun b => funext fun stuff => funext fun may => funext (lp_all (by kernel_rfl) fun n => by
 show _ = f_58_0r N b stuff may (it_f_58_0 N b stuff may n)
 kernel_rfl)
theorem run_f_58 (N : Nat) (b : Book) (stuff : Txt) (may : List Txt) : runST (ofDs [.bool]) (tabOf tabL) (tabS (phiL_f_58 N)) inl0 N fi_f_58 sg_f_58 [⟨tBook, b⟩, ⟨.str, stuff⟩, ⟨tTxts, may⟩] = F.f_58 N b stuff may := by
 show _ = F.f_58b N (F.f_58_0 N) b stuff may
 rw [← fe_f_58_0 N]
 kernel_rfl
def sm_f_58 (N : Nat) : Summ := summOf [.d tBook true, .d (.str) false, .d tTxts false] false [.d (.bool) false] [.bool] (F.f_58 N)
theorem con_f_58 (N : Nat) : Contract Try.prog 96 (sm_f_58 N) := con_of (N := N) tabOK mixed (callOK_list (l := phiL_f_58 N) (allc rfl (con_f_72 N) trivial)) (inl0_ok _) ok_f_58 (by decide) fun b stuff may => run_f_58 N b stuff may
def an_f_50 : Nat → Option Ann
 | 0 => some ⟨⟨[(2, kp), (3, kp), (5, kp)], [(2, [kp, kp, kp, kp, kp]), (3, [kp, kp, kp, kp, kp])], []⟩, [(0, ⟨[], [], []⟩)], ⟨[(4, kp)], [], []⟩⟩
 | _ => none
noncomputable def fi_f_50 : FI := ⟨Try.f52.results.toList, bodyOf Try.f52.body, Try.f52.ntmps, an_f_50⟩
theorem ok_f_50 : FnOK Try.prog 52 fi_f_50 := ⟨⟨Try.f52, Try.func52, by kernel_rfl, rfl, rfl, by kernel_rfl⟩, by kernel_rfl⟩
def phiL_f_50 (N : Nat) : List (Nat × Summ) := [(88, sm_f_46 N), (36, sm_f_95 N), (38, sm_f_37 N), (96, sm_f_58 N)]
def sg_f_50 : Summ := sigOf [.d tBook true, .d tSpot true] false [.d (.bool) false]
def S_f_50_0 (b : Book) (s : Spot) (i5 : Int) : St := ⟨[(2, vb 2), (3, vb 3), (5, vv tInt i5)], [(2, .box [.v tFoe.slice b.1, .v tSpot.slice b.2.1, .v tTxts b.2.2.1, .v tPart.slice b.2.2.2.1, .v tInt b.2.2.2.2]), (3, .box [.v Ty.str s.1, .v tInt s.2.1, .v tInt s.2.2.1, .v tInt s.2.2.2.1, .v tTxts s.2.2.2.2])]⟩
noncomputable def E_f_50 (N : Nat) : Env := envOf (tabOf tabL) (tabS (phiL_f_50 N)) inl0 N fi_f_50 []
noncomputable def K_f_50 := (kFun (tabOf tabL) fi_f_50.res (kT (ofDs [.bool]) sg_f_50 []))
noncomputable def its_f_50_0 (N : Nat) (n : Nat) : St → Option Bool := fun S' => iter [] (annAt fi_f_50 0) (code (E_f_50 N) (lpIn fi_f_50.body 0 0) 0) n S' (contOf (E_f_50 N) fi_f_50.body 0 0 K_f_50)
noncomputable def it_f_50_0 (N : Nat) (b : Book) (s : Spot) (n : Nat) : Int → Option Bool := fun i5 => its_f_50_0 N n (S_f_50_0 b s i5)
theorem fe_f_50_0 (N : Nat) : it_f_50_0 N = f_50_0 N := funext fun b => funext fun s => funext (lp_all (by kernel_rfl) fun n => by
 show _ = f_50_0r N b s (it_f_50_0 N b s n)
 kernel_rfl)
theorem run_f_50 (N : Nat) (b : Book) (s : Spot) : runST (ofDs [.bool]) (tabOf tabL) (tabS (phiL_f_50 N)) inl0 N fi_f_50 sg_f_50 [⟨tBook, b⟩, ⟨tSpot, s⟩] = F.f_50 N b s := by
 show _ = F.f_50b N (F.f_50_0 N) b s
 rw [← fe_f_50_0 N]
 kernel_rfl
def sm_f_50 (N : Nat) : Summ := summOf [.d tBook true, .d tSpot true] false [.d (.bool) false] [.bool] (F.f_50 N)
theorem con_f_50 (N : Nat) : Contract Try.prog 52 (sm_f_50 N) := con_of (N := N) tabOK mixed (callOK_list (l := phiL_f_50 N) (allc rfl (con_f_46 N) (allc rfl (con_f_95 N) (allc rfl (con_f_37 N) (allc rfl (con_f_58 N) trivial))))) (inl0_ok _) ok_f_50 (by decide) fun b s => run_f_50 N b s
def an_f_47 : Nat → Option Ann
 | 0 => some ⟨⟨[(1, kp), (3, kp)], [(1, [kp, kp, kp, kp, kp, kp])], []⟩, [(0, ⟨[], [], []⟩)], ⟨[(2, kp)], [], []⟩⟩
 | _ => none
noncomputable def fi_f_47 : FI := ⟨Try.f37.results.toList, bodyOf Try.f37.body, Try.f37.ntmps, an_f_47⟩
theorem ok_f_47 : FnOK Try.prog 37 fi_f_47 := ⟨⟨Try.f37, Try.func37, by kernel_rfl, rfl, rfl, by kernel_rfl⟩, by kernel_rfl⟩
def phiL_f_47 (N : Nat) : List (Nat × Summ) := [(88, sm_f_46 N), (36, sm_f_95 N)]
def sg_f_47 : Summ := sigOf [.d tWant true] false [.d (.bool) false]
def S_f_47_0 (w : Want) (i3 : Int) : St := ⟨[(1, vb 1), (3, vv tInt i3)], [(1, .box [.v tInt w.1, .v tInt w.2.1, .v tTxts w.2.2.1, .v tUse.slice w.2.2.2.1, .v tTxts w.2.2.2.2.1, .v tTxts w.2.2.2.2.2])]⟩
noncomputable def E_f_47 (N : Nat) : Env := envOf (tabOf tabL) (tabS (phiL_f_47 N)) inl0 N fi_f_47 []
noncomputable def K_f_47 := (kFun (tabOf tabL) fi_f_47.res (kT (ofDs [.bool]) sg_f_47 []))
noncomputable def its_f_47_0 (N : Nat) (n : Nat) : St → Option Bool := fun S' => iter [] (annAt fi_f_47 0) (code (E_f_47 N) (lpIn fi_f_47.body 0 0) 0) n S' (contOf (E_f_47 N) fi_f_47.body 0 0 K_f_47)
noncomputable def it_f_47_0 (N : Nat) (w : Want) (n : Nat) : Int → Option Bool := fun i3 => its_f_47_0 N n (S_f_47_0 w i3)
theorem fe_f_47_0 (N : Nat) : it_f_47_0 N = f_47_0 N := funext fun w => funext (lp_all (by kernel_rfl) fun n => by
 show _ = f_47_0r N w (it_f_47_0 N w n)
 kernel_rfl)
theorem run_f_47 (N : Nat) (w : Want) : runST (ofDs [.bool]) (tabOf tabL) (tabS (phiL_f_47 N)) inl0 N fi_f_47 sg_f_47 [⟨tWant, w⟩] = F.f_47 N w := by
 show _ = F.f_47b N (F.f_47_0 N) w
 rw [← fe_f_47_0 N]
 kernel_rfl
def sm_f_47 (N : Nat) : Summ := summOf [.d tWant true] false [.d (.bool) false] [.bool] (F.f_47 N)
theorem con_f_47 (N : Nat) : Contract Try.prog 37 (sm_f_47 N) := con_of (N := N) tabOK mixed (callOK_list (l := phiL_f_47 N) (allc rfl (con_f_46 N) (allc rfl (con_f_95 N) trivial))) (inl0_ok _) ok_f_47 (by decide) fun w => run_f_47 N w
def an_f_57 : Nat → Option Ann
 | 0 => some ⟨⟨[(0, kp), (1, kp), (5, kp)], [], []⟩, [(0, ⟨[], [], []⟩)], ⟨[(4, kp)], [], []⟩⟩
 | _ => none
noncomputable def fi_f_57 : FI := ⟨Try.f39.results.toList, bodyOf Try.f39.body, Try.f39.ntmps, an_f_57⟩
theorem ok_f_57 : FnOK Try.prog 39 fi_f_57 := ⟨⟨Try.f39, Try.func39, by kernel_rfl, rfl, rfl, by kernel_rfl⟩, by kernel_rfl⟩
def phiL_f_57 (N : Nat) : List (Nat × Summ) := [(65, sm_f_90 N)]
def sg_f_57 : Summ := sigOf [.d tTxts false, .d tTxts false] false [.d (.bool) false]
def S_f_57_0 (a : List Txt) (b : List Txt) (i5 : Int) : St := ⟨[(0, vv tTxts a), (1, vv tTxts b), (5, vv tInt i5)], []⟩
noncomputable def E_f_57 (N : Nat) : Env := envOf (tabOf tabL) (tabS (phiL_f_57 N)) inl0 N fi_f_57 []
noncomputable def K_f_57 := (kFun (tabOf tabL) fi_f_57.res (kT (ofDs [.bool]) sg_f_57 []))
noncomputable def its_f_57_0 (N : Nat) (n : Nat) : St → Option Bool := fun S' => iter [] (annAt fi_f_57 0) (code (E_f_57 N) (lpIn fi_f_57.body 0 0) 0) n S' (contOf (E_f_57 N) fi_f_57.body 0 0 K_f_57)
noncomputable def it_f_57_0 (N : Nat) (a : List Txt) (b : List Txt) (n : Nat) : Int → Option Bool := fun i5 => its_f_57_0 N n (S_f_57_0 a b i5)
theorem fe_f_57_0 (N : Nat) : it_f_57_0 N = f_57_0 N := funext fun a => funext fun b => funext (lp_all (by kernel_rfl) fun n => by
 show _ = f_57_0r N a b (it_f_57_0 N a b n)
 kernel_rfl)
theorem run_f_57 (N : Nat) (a : List Txt) (b : List Txt) : runST (ofDs [.bool]) (tabOf tabL) (tabS (phiL_f_57 N)) inl0 N fi_f_57 sg_f_57 [⟨tTxts, a⟩, ⟨tTxts, b⟩] = F.f_57 N a b := by
 show _ = F.f_57b N (F.f_57_0 N) a b
 rw [← fe_f_57_0 N]
 kernel_rfl
def sm_f_57 (N : Nat) : Summ := summOf [.d tTxts false, .d tTxts false] false [.d (.bool) false] [.bool] (F.f_57 N)
theorem con_f_57 (N : Nat) : Contract Try.prog 39 (sm_f_57 N) := con_of (N := N) tabOK mixed (callOK_list (l := phiL_f_57 N) (allc rfl (con_f_90 N) trivial)) (inl0_ok _) ok_f_57 (by decide) fun a b => run_f_57 N a b
def an_f_28 : Nat → Option Ann := fun _ => none
noncomputable def fi_f_28 : FI := ⟨Try.f10.results.toList, bodyOf Try.f10.body, Try.f10.ntmps, an_f_28⟩
theorem ok_f_28 : FnOK Try.prog 10 fi_f_28 := ⟨⟨Try.f10, Try.func10, by kernel_rfl, rfl, rfl, by kernel_rfl⟩, by kernel_rfl⟩
def phiL_f_28 (N : Nat) : List (Nat × Summ) := [(36, sm_f_95 N), (37, sm_f_47 N), (38, sm_f_37 N), (39, sm_f_57 N)]
def sg_f_28 : Summ := sigOf [.d tWant true] false [.d (.bool) false]
theorem run_f_28 (N : Nat) (w : Want) : runST (ofDs [.bool]) (tabOf tabL) (tabS (phiL_f_28 N)) inl0 N fi_f_28 sg_f_28 [⟨tWant, w⟩] = F.f_28 N w := by kernel_rfl
def sm_f_28 (N : Nat) : Summ := summOf [.d tWant true] false [.d (.bool) false] [.bool] (F.f_28 N)
theorem con_f_28 (N : Nat) : Contract Try.prog 10 (sm_f_28 N) := con_of (N := N) tabOK mixed (callOK_list (l := phiL_f_28 N) (allc rfl (con_f_95 N) (allc rfl (con_f_47 N) (allc rfl (con_f_37 N) (allc rfl (con_f_57 N) trivial))))) (inl0_ok _) ok_f_28 (by decide) fun w => run_f_28 N w
def an_f_74 : Nat → Option Ann
 | 0 => some ⟨⟨[(1, kp), (2, kp), (5, kp)], [(2, [kp, kp, kp, kp, kp])], []⟩, [(0, ⟨[], [], []⟩)], ⟨[(4, kp)], [], []⟩⟩
 | _ => none
noncomputable def fi_f_74 : FI := ⟨Try.f84.results.toList, bodyOf Try.f84.body, Try.f84.ntmps, an_f_74⟩
theorem ok_f_74 : FnOK Try.prog 84 fi_f_74 := ⟨⟨Try.f84, Try.func84, by kernel_rfl, rfl, rfl, by kernel_rfl⟩, by kernel_rfl⟩
def phiL_f_74 (N : Nat) : List (Nat × Summ) := []
def sg_f_74 : Summ := sigOf [.d tBook true, .d (.str) false] false [.d tInt false]
def S_f_74_0 (b : Book) (name : Txt) (i5 : Int) : St := ⟨[(1, vv Ty.str name), (2, vb 2), (5, vv tInt i5)], [(2, .box [.v tFoe.slice b.1, .v tSpot.slice b.2.1, .v tTxts b.2.2.1, .v tPart.slice b.2.2.2.1, .v tInt b.2.2.2.2])]⟩
noncomputable def E_f_74 (N : Nat) : Env := envOf (tabOf tabL) (tabS (phiL_f_74 N)) inl0 N fi_f_74 []
noncomputable def K_f_74 := (kFun (tabOf tabL) fi_f_74.res (kT (ofDs [tInt]) sg_f_74 []))
noncomputable def its_f_74_0 (N : Nat) (n : Nat) : St → Option Int := fun S' => iter [] (annAt fi_f_74 0) (code (E_f_74 N) (lpIn fi_f_74.body 0 0) 0) n S' (contOf (E_f_74 N) fi_f_74.body 0 0 K_f_74)
noncomputable def it_f_74_0 (N : Nat) (b : Book) (name : Txt) (n : Nat) : Int → Option Int := fun i5 => its_f_74_0 N n (S_f_74_0 b name i5)
theorem fe_f_74_0 (N : Nat) : it_f_74_0 N = f_74_0 N := funext fun b => funext fun name => funext (lp_all (by kernel_rfl) fun n => by
 show _ = f_74_0r N b name (it_f_74_0 N b name n)
 kernel_rfl)
theorem run_f_74 (N : Nat) (b : Book) (name : Txt) : runST (ofDs [tInt]) (tabOf tabL) (tabS (phiL_f_74 N)) inl0 N fi_f_74 sg_f_74 [⟨tBook, b⟩, ⟨.str, name⟩] = F.f_74 N b name := by
 show _ = F.f_74b N (F.f_74_0 N) b name
 rw [← fe_f_74_0 N]
 kernel_rfl
def sm_f_74 (N : Nat) : Summ := summOf [.d tBook true, .d (.str) false] false [.d tInt false] [tInt] (F.f_74 N)
theorem con_f_74 (N : Nat) : Contract Try.prog 84 (sm_f_74 N) := con_of (N := N) tabOK mixed (callOK_list (l := phiL_f_74 N) trivial) (inl0_ok _) ok_f_74 (by decide) fun b name => run_f_74 N b name
def an_f_59 : Nat → Option Ann
 | 0 => some ⟨⟨[(2, kp), (3, kp), (5, kp)], [(2, [kp, kp, kp, kp, kp]), (3, [kp, kp, kp, kp, kp, kp])], []⟩, [(0, ⟨[(2, kp), (3, kp)], [(2, [kp, kp, kp, kp, kp]), (3, [kp, kp, kp, kp, kp, kp])], []⟩)], ⟨[(4, kp)], [], []⟩⟩
 | 2 => some ⟨⟨[(2, kp), (3, kp), (6, kp)], [(2, [kp, kp, kp, kp, kp]), (3, [kp, kp, kp, kp, kp, kp])], []⟩, [(2, ⟨[(2, kp), (3, kp)], [(2, [kp, kp, kp, kp, kp]), (3, [kp, kp, kp, kp, kp, kp])], []⟩)], ⟨[(4, kp)], [], []⟩⟩
 | 4 => some ⟨⟨[(2, kp), (3, kp), (7, kp)], [(2, [kp, kp, kp, kp, kp]), (3, [kp, kp, kp, kp, kp, kp])], []⟩, [(4, ⟨[], [], []⟩)], ⟨[(4, kp)], [], []⟩⟩
 | _ => none
noncomputable def fi_f_59 : FI := ⟨Try.f127.results.toList, bodyOf Try.f127.body, Try.f127.ntmps, an_f_59⟩
theorem ok_f_59 : FnOK Try.prog 127 fi_f_59 := ⟨⟨Try.f127, Try.func127, by kernel_rfl, rfl, rfl, by kernel_rfl⟩, by kernel_rfl⟩
def phiL_f_59 (N : Nat) : List (Nat × Summ) := [(84, sm_f_74 N), (65, sm_f_90 N)]
def sg_f_59 : Summ := sigOf [.d tBook true, .d tWant true] false [.d (.bool) false]
def S_f_59_4 (b : Book) (w : Want) (i7 : Int) : St := ⟨[(2, vb 2), (3, vb 3), (7, vv tInt i7)], [(2, .box [.v tFoe.slice b.1, .v tSpot.slice b.2.1, .v tTxts b.2.2.1, .v tPart.slice b.2.2.2.1, .v tInt b.2.2.2.2]), (3, .box [.v tInt w.1, .v tInt w.2.1, .v tTxts w.2.2.1, .v tUse.slice w.2.2.2.1, .v tTxts w.2.2.2.2.1, .v tTxts w.2.2.2.2.2])]⟩
def S_f_59_2 (b : Book) (w : Want) (i6 : Int) : St := ⟨[(2, vb 2), (3, vb 3), (6, vv tInt i6)], [(2, .box [.v tFoe.slice b.1, .v tSpot.slice b.2.1, .v tTxts b.2.2.1, .v tPart.slice b.2.2.2.1, .v tInt b.2.2.2.2]), (3, .box [.v tInt w.1, .v tInt w.2.1, .v tTxts w.2.2.1, .v tUse.slice w.2.2.2.1, .v tTxts w.2.2.2.2.1, .v tTxts w.2.2.2.2.2])]⟩
def S_f_59_0 (b : Book) (w : Want) (i5 : Int) : St := ⟨[(2, vb 2), (3, vb 3), (5, vv tInt i5)], [(2, .box [.v tFoe.slice b.1, .v tSpot.slice b.2.1, .v tTxts b.2.2.1, .v tPart.slice b.2.2.2.1, .v tInt b.2.2.2.2]), (3, .box [.v tInt w.1, .v tInt w.2.1, .v tTxts w.2.2.1, .v tUse.slice w.2.2.2.1, .v tTxts w.2.2.2.2.1, .v tTxts w.2.2.2.2.2])]⟩
noncomputable def E_f_59 (N : Nat) : Env := envOf (tabOf tabL) (tabS (phiL_f_59 N)) inl0 N fi_f_59 []
noncomputable def K_f_59 := (kFun (tabOf tabL) fi_f_59.res (kT (ofDs [.bool]) sg_f_59 []))
noncomputable def its_f_59_4 (N : Nat) (n : Nat) : St → Option Bool := fun S' => iter [] (annAt fi_f_59 4) (code (E_f_59 N) (lpIn fi_f_59.body 0 4) 4) n S' (contOf (E_f_59 N) fi_f_59.body 0 4 K_f_59)
noncomputable def it_f_59_4 (N : Nat) (b : Book) (w : Want) (n : Nat) : Int → Option Bool := fun i7 => its_f_59_4 N n (S_f_59_4 b w i7)
theorem fe_f_59_4 (N : Nat) : it_f_59_4 N = f_59_4 N := funext fun b => funext fun w => funext (lp_all (by kernel_rfl) fun n => by
 show _ = f_59_4r N b w (it_f_59_4 N b w n)
 kernel_rfl)
noncomputable def its_f_59_2 (N : Nat) (n : Nat) : St → Option Bool := fun S' => iter [] (annAt fi_f_59 2) (code (E_f_59 N) (lpIn fi_f_59.body 0 2) 2) n S' (contOf (E_f_59 N) fi_f_59.body 0 2 K_f_59)
noncomputable def it_f_59_2 (N : Nat) (b : Book) (w : Want) (n : Nat) : Int → Option Bool := fun i6 => its_f_59_2 N n (S_f_59_2 b w i6)
theorem fe_f_59_2 (N : Nat) : it_f_59_2 N = f_59_2 N := funext fun b => funext fun w => funext (lp_all (by kernel_rfl) fun n => by
 show _ = f_59_2r N (f_59_4 N) b w (it_f_59_2 N b w n)
 rw [show f_59_4 N = it_f_59_4 N from (fe_f_59_4 N).symm]
 kernel_rfl)
noncomputable def its_f_59_0 (N : Nat) (n : Nat) : St → Option Bool := fun S' => iter [] (annAt fi_f_59 0) (code (E_f_59 N) (lpIn fi_f_59.body 0 0) 0) n S' (contOf (E_f_59 N) fi_f_59.body 0 0 K_f_59)
noncomputable def it_f_59_0 (N : Nat) (b : Book) (w : Want) (n : Nat) : Int → Option Bool := fun i5 => its_f_59_0 N n (S_f_59_0 b w i5)
theorem fe_f_59_0 (N : Nat) : it_f_59_0 N = f_59_0 N := funext fun b => funext fun w => funext (lp_all (by kernel_rfl) fun n => by
 show _ = f_59_0r N (f_59_2 N) b w (it_f_59_0 N b w n)
 rw [show f_59_2 N = it_f_59_2 N from (fe_f_59_2 N).symm]
 kernel_rfl)
theorem run_f_59 (N : Nat) (b : Book) (w : Want) : runST (ofDs [.bool]) (tabOf tabL) (tabS (phiL_f_59 N)) inl0 N fi_f_59 sg_f_59 [⟨tBook, b⟩, ⟨tWant, w⟩] = F.f_59 N b w := by
 show _ = F.f_59b N (F.f_59_0 N) b w
 rw [← fe_f_59_0 N]
 kernel_rfl
def sm_f_59 (N : Nat) : Summ := summOf [.d tBook true, .d tWant true] false [.d (.bool) false] [.bool] (F.f_59 N)
theorem con_f_59 (N : Nat) : Contract Try.prog 127 (sm_f_59 N) := con_of (N := N) tabOK mixed (callOK_list (l := phiL_f_59 N) (allc rfl (con_f_74 N) (allc rfl (con_f_90 N) trivial))) (inl0_ok _) ok_f_59 (by decide) fun b w => run_f_59 N b w
def an_f_89 : Nat → Option Ann
 | 0 => some ⟨⟨[(0, kp), (1, kp), (5, kp)], [], []⟩, [(0, ⟨[], [], []⟩)], ⟨[(4, kp)], [], []⟩⟩
 | _ => none
noncomputable def fi_f_89 : FI := ⟨Try.f137.results.toList, bodyOf Try.f137.body, Try.f137.ntmps, an_f_89⟩
theorem ok_f_89 : FnOK Try.prog 137 fi_f_89 := ⟨⟨Try.f137, Try.func137, by kernel_rfl, rfl, rfl, by kernel_rfl⟩, by kernel_rfl⟩
def phiL_f_89 (N : Nat) : List (Nat × Summ) := [(65, sm_f_90 N)]
def sg_f_89 : Summ := sigOf [.d tTxts false, .d tTxts false] false [.d (.bool) false]
def S_f_89_0 (a : List Txt) (b : List Txt) (i5 : Int) : St := ⟨[(0, vv tTxts a), (1, vv tTxts b), (5, vv tInt i5)], []⟩
noncomputable def E_f_89 (N : Nat) : Env := envOf (tabOf tabL) (tabS (phiL_f_89 N)) inl0 N fi_f_89 []
noncomputable def K_f_89 := (kFun (tabOf tabL) fi_f_89.res (kT (ofDs [.bool]) sg_f_89 []))
noncomputable def its_f_89_0 (N : Nat) (n : Nat) : St → Option Bool := fun S' => iter [] (annAt fi_f_89 0) (code (E_f_89 N) (lpIn fi_f_89.body 0 0) 0) n S' (contOf (E_f_89 N) fi_f_89.body 0 0 K_f_89)
noncomputable def it_f_89_0 (N : Nat) (a : List Txt) (b : List Txt) (n : Nat) : Int → Option Bool := fun i5 => its_f_89_0 N n (S_f_89_0 a b i5)
theorem fe_f_89_0 (N : Nat) : it_f_89_0 N = f_89_0 N := funext fun a => funext fun b => funext (lp_all (by kernel_rfl) fun n => by
 show _ = f_89_0r N a b (it_f_89_0 N a b n)
 kernel_rfl)
theorem run_f_89 (N : Nat) (a : List Txt) (b : List Txt) : runST (ofDs [.bool]) (tabOf tabL) (tabS (phiL_f_89 N)) inl0 N fi_f_89 sg_f_89 [⟨tTxts, a⟩, ⟨tTxts, b⟩] = F.f_89 N a b := by
 show _ = F.f_89b N (F.f_89_0 N) a b
 rw [← fe_f_89_0 N]
 kernel_rfl
def sm_f_89 (N : Nat) : Summ := summOf [.d tTxts false, .d tTxts false] false [.d (.bool) false] [.bool] (F.f_89 N)
theorem con_f_89 (N : Nat) : Contract Try.prog 137 (sm_f_89 N) := con_of (N := N) tabOK mixed (callOK_list (l := phiL_f_89 N) (allc rfl (con_f_90 N) trivial)) (inl0_ok _) ok_f_89 (by decide) fun a b => run_f_89 N a b
def an_f_60 : Nat → Option Ann := fun _ => none
noncomputable def fi_f_60 : FI := ⟨Try.f128.results.toList, bodyOf Try.f128.body, Try.f128.ntmps, an_f_60⟩
theorem ok_f_60 : FnOK Try.prog 128 fi_f_60 := ⟨⟨Try.f128, Try.func128, by kernel_rfl, rfl, rfl, by kernel_rfl⟩, by kernel_rfl⟩
def phiL_f_60 (N : Nat) : List (Nat × Summ) := [(137, sm_f_89 N)]
def sg_f_60 : Summ := sigOf [.d tSpot true, .d tWant true, .d tUse true] false [.d (.bool) false]
theorem run_f_60 (N : Nat) (s : Spot) (w : Want) (u : Use) : runST (ofDs [.bool]) (tabOf tabL) (tabS (phiL_f_60 N)) inl0 N fi_f_60 sg_f_60 [⟨tSpot, s⟩, ⟨tWant, w⟩, ⟨tUse, u⟩] = F.f_60 N s w u := by kernel_rfl
def sm_f_60 (N : Nat) : Summ := summOf [.d tSpot true, .d tWant true, .d tUse true] false [.d (.bool) false] [.bool] (F.f_60 N)
theorem con_f_60 (N : Nat) : Contract Try.prog 128 (sm_f_60 N) := con_of (N := N) tabOK mixed (callOK_list (l := phiL_f_60 N) (allc rfl (con_f_89 N) trivial)) (inl0_ok _) ok_f_60 (by decide) fun s w u => run_f_60 N s w u
def an_f_49 : Nat → Option Ann
 | 0 => some ⟨⟨[(2, kp), (3, kp), (5, kp)], [(2, [kp, kp, kp, kp, kp]), (3, [kp, kp, kp, kp, kp, kp, kp])], []⟩, [(0, ⟨[], [], []⟩)], ⟨[(4, kp)], [], []⟩⟩
 | _ => none
noncomputable def fi_f_49 : FI := ⟨Try.f97.results.toList, bodyOf Try.f97.body, Try.f97.ntmps, an_f_49⟩
theorem ok_f_49 : FnOK Try.prog 97 fi_f_49 := ⟨⟨Try.f97, Try.func97, by kernel_rfl, rfl, rfl, by kernel_rfl⟩, by kernel_rfl⟩
def phiL_f_49 (N : Nat) : List (Nat × Summ) := [(10, sm_f_28 N), (127, sm_f_59 N), (84, sm_f_74 N), (128, sm_f_60 N)]
def sg_f_49 : Summ := sigOf [.d tBook true, .d tPart true] false [.d (.bool) false]
def S_f_49_0 (b : Book) (p : Part) (i5 : Int) : St := ⟨[(2, vb 2), (3, vb 3), (5, vv tInt i5)], [(2, .box [.v tFoe.slice b.1, .v tSpot.slice b.2.1, .v tTxts b.2.2.1, .v tPart.slice b.2.2.2.1, .v tInt b.2.2.2.2]), (3, .box [.v tInt p.1.1, .v tInt p.1.2.1, .v tTxts p.1.2.2.1, .v tUse.slice p.1.2.2.2.1, .v tTxts p.1.2.2.2.2.1, .v tTxts p.1.2.2.2.2.2, .v Ty.bool p.2])]⟩
noncomputable def E_f_49 (N : Nat) : Env := envOf (tabOf tabL) (tabS (phiL_f_49 N)) inl0 N fi_f_49 []
noncomputable def K_f_49 := (kFun (tabOf tabL) fi_f_49.res (kT (ofDs [.bool]) sg_f_49 []))
noncomputable def its_f_49_0 (N : Nat) (n : Nat) : St → Option Bool := fun S' => iter [] (annAt fi_f_49 0) (code (E_f_49 N) (lpIn fi_f_49.body 0 0) 0) n S' (contOf (E_f_49 N) fi_f_49.body 0 0 K_f_49)
noncomputable def it_f_49_0 (N : Nat) (b : Book) (p : Part) (n : Nat) : Int → Option Bool := fun i5 => its_f_49_0 N n (S_f_49_0 b p i5)
theorem fe_f_49_0 (N : Nat) : it_f_49_0 N = f_49_0 N := funext fun b => funext fun p => funext (lp_all (by kernel_rfl) fun n => by
 show _ = f_49_0r N b p (it_f_49_0 N b p n)
 kernel_rfl)
theorem run_f_49 (N : Nat) (b : Book) (p : Part) : runST (ofDs [.bool]) (tabOf tabL) (tabS (phiL_f_49 N)) inl0 N fi_f_49 sg_f_49 [⟨tBook, b⟩, ⟨tPart, p⟩] = F.f_49 N b p := by
 show _ = F.f_49b N (F.f_49_0 N) b p
 rw [← fe_f_49_0 N]
 kernel_rfl
def sm_f_49 (N : Nat) : Summ := summOf [.d tBook true, .d tPart true] false [.d (.bool) false] [.bool] (F.f_49 N)
theorem con_f_49 (N : Nat) : Contract Try.prog 97 (sm_f_49 N) := con_of (N := N) tabOK mixed (callOK_list (l := phiL_f_49 N) (allc rfl (con_f_28 N) (allc rfl (con_f_59 N) (allc rfl (con_f_74 N) (allc rfl (con_f_60 N) trivial))))) (inl0_ok _) ok_f_49 (by decide) fun b p => run_f_49 N b p
def an_f_75 : Nat → Option Ann
 | 0 => some ⟨⟨[(1, kp), (3, .own 700003 9 Ty.str), (4, kp)], [(1, [kp, kp, kp, kp, kp, kp])], []⟩, [(0, ⟨[(3, .own 700003 9 Ty.str)], [], []⟩)], ⟨[], [], []⟩⟩
 | _ => none
noncomputable def fi_f_75 : FI := ⟨Try.f98.results.toList, bodyOf Try.f98.body, Try.f98.ntmps, an_f_75⟩
theorem ok_f_75 : FnOK Try.prog 98 fi_f_75 := ⟨⟨Try.f98, Try.func98, by kernel_rfl, rfl, rfl, by kernel_rfl⟩, by kernel_rfl⟩
def phiL_f_75 (N : Nat) : List (Nat × Summ) := []
def sg_f_75 : Summ := sigOf [.d tWant true] false [.own tTxts false [(9, none)]]
def S_f_75_0 (w : Want) (i4 : Int) (out3a : List Txt) : St := ⟨[(1, vb 1), (3, va 700003), (4, vv tInt i4)], [(1, .box [.v tInt w.1, .v tInt w.2.1, .v tTxts w.2.2.1, .v tUse.slice w.2.2.2.1, .v tTxts w.2.2.2.2.1, .v tTxts w.2.2.2.2.2]), (700003, .arr 9 Ty.str out3a)]⟩
noncomputable def E_f_75 (N : Nat) : Env := envOf (tabOf tabL) (tabS (phiL_f_75 N)) inl0 N fi_f_75 []
noncomputable def K_f_75 := (kFun (tabOf tabL) fi_f_75.res (kT (ofDs [tTxts]) sg_f_75 []))
noncomputable def its_f_75_0 (N : Nat) (n : Nat) : St → Option (List Txt) := fun S' => iter [] (annAt fi_f_75 0) (code (E_f_75 N) (lpIn fi_f_75.body 0 0) 0) n S' (contOf (E_f_75 N) fi_f_75.body 0 0 K_f_75)
noncomputable def it_f_75_0 (N : Nat) (w : Want) (n : Nat) : Int → (List Txt) → Option (List Txt) := fun i4 out3a => its_f_75_0 N n (S_f_75_0 w i4 out3a)
theorem fe_f_75_0 (N : Nat) : it_f_75_0 N = f_75_0 N := funext fun w => funext (lp_all (by kernel_rfl) fun n => by
 show _ = f_75_0r N w (it_f_75_0 N w n)
 kernel_rfl)
theorem run_f_75 (N : Nat) (w : Want) : runST (ofDs [tTxts]) (tabOf tabL) (tabS (phiL_f_75 N)) inl0 N fi_f_75 sg_f_75 [⟨tWant, w⟩] = F.f_75 N w := by
 show _ = F.f_75b N (F.f_75_0 N) w
 rw [← fe_f_75_0 N]
 kernel_rfl
def sm_f_75 (N : Nat) : Summ := summOf [.d tWant true] false [.own tTxts false [(9, none)]] [tTxts] (F.f_75 N)
theorem con_f_75 (N : Nat) : Contract Try.prog 98 (sm_f_75 N) := con_of (N := N) tabOK mixed (callOK_list (l := phiL_f_75 N) trivial) (inl0_ok _) ok_f_75 (by decide) fun w => run_f_75 N w
def an_f_40 : Nat → Option Ann := fun _ => none
noncomputable def fi_f_40 : FI := ⟨Try.f99.results.toList, bodyOf Try.f99.body, Try.f99.ntmps, an_f_40⟩
theorem ok_f_40 : FnOK Try.prog 99 fi_f_40 := ⟨⟨Try.f99, Try.func99, by kernel_rfl, rfl, rfl, by kernel_rfl⟩, by kernel_rfl⟩
def phiL_f_40 (N : Nat) : List (Nat × Summ) := [(39, sm_f_57 N)]
def sg_f_40 : Summ := sigOf [.d tWant true, .d tWant true] false [.d (.bool) false]
theorem run_f_40 (N : Nat) (a : Want) (b : Want) : runST (ofDs [.bool]) (tabOf tabL) (tabS (phiL_f_40 N)) inl0 N fi_f_40 sg_f_40 [⟨tWant, a⟩, ⟨tWant, b⟩] = F.f_40 N a b := by kernel_rfl
def sm_f_40 (N : Nat) : Summ := summOf [.d tWant true, .d tWant true] false [.d (.bool) false] [.bool] (F.f_40 N)
theorem con_f_40 (N : Nat) : Contract Try.prog 99 (sm_f_40 N) := con_of (N := N) tabOK mixed (callOK_list (l := phiL_f_40 N) (allc rfl (con_f_57 N) trivial)) (inl0_ok _) ok_f_40 (by decide) fun a b => run_f_40 N a b
def an_f_41 : Nat → Option Ann
 | 0 => some ⟨⟨[(1, kp), (3, kp)], [(1, [kp, kp, kp, kp, kp])], []⟩, [(0, ⟨[], [], []⟩)], ⟨[(2, kp)], [], []⟩⟩
 | 2 => some ⟨⟨[(1, kp), (3, kp), (4, kp), (5, kp)], [(1, [kp, kp, kp, kp, kp]), (4, [kp, kp, kp, kp, kp, kp])], []⟩, [(2, ⟨[(1, kp), (3, kp)], [(1, [kp, kp, kp, kp, kp])], []⟩)], ⟨[(2, kp)], [], []⟩⟩
 | _ => none
noncomputable def fi_f_41 : FI := ⟨Try.f53.results.toList, bodyOf Try.f53.body, Try.f53.ntmps, an_f_41⟩
theorem ok_f_41 : FnOK Try.prog 53 fi_f_41 := ⟨⟨Try.f53, Try.func53, by kernel_rfl, rfl, rfl, by kernel_rfl⟩, by kernel_rfl⟩
def phiL_f_41 (N : Nat) : List (Nat × Summ) := [(97, sm_f_49 N), (98, sm_f_75 N), (39, sm_f_57 N), (99, sm_f_40 N)]
def sg_f_41 : Summ := sigOf [.d tBook true] false [.d (.bool) false]
def S_f_41_2 (b : Book) (i3 : Int) (w4c0 : Int) (w4c1 : Int) (w4c2 : List Txt) (w4c3 : List Use) (w4c4 : List Txt) (w4c5 : List Txt) (k5 : Int) : St := ⟨[(1, vb 1), (3, vv tInt i3), (4, vb 4), (5, vv tInt k5)], [(1, .box [.v tFoe.slice b.1, .v tSpot.slice b.2.1, .v tTxts b.2.2.1, .v tPart.slice b.2.2.2.1, .v tInt b.2.2.2.2]), (4, .box [.v tInt w4c0, .v tInt w4c1, .v tTxts w4c2, .v tUse.slice w4c3, .v tTxts w4c4, .v tTxts w4c5])]⟩
def S_f_41_0 (b : Book) (i3 : Int) : St := ⟨[(1, vb 1), (3, vv tInt i3)], [(1, .box [.v tFoe.slice b.1, .v tSpot.slice b.2.1, .v tTxts b.2.2.1, .v tPart.slice b.2.2.2.1, .v tInt b.2.2.2.2])]⟩
noncomputable def E_f_41 (N : Nat) : Env := envOf (tabOf tabL) (tabS (phiL_f_41 N)) inl0 N fi_f_41 []
noncomputable def K_f_41 := (kFun (tabOf tabL) fi_f_41.res (kT (ofDs [.bool]) sg_f_41 []))
noncomputable def its_f_41_2 (N : Nat) (nxS0 : St → Option Bool) (n : Nat) : St → Option Bool := fun S' => iter [] (annAt fi_f_41 2) (code (E_f_41 N) (lpIn (lpIn fi_f_41.body 0 0) 0 2) 2) n S' (contOf (E_f_41 N) (lpIn fi_f_41.body 0 0) 0 2 (kLoop [] (annAt fi_f_41 0) nxS0 (contOf (E_f_41 N) fi_f_41.body 0 0 K_f_41)))
noncomputable def it_f_41_2 (N : Nat) (nxS0 : St → Option Bool) (b : Book) (i3 : Int) (w4c0 : Int) (w4c1 : Int) (w4c2 : List Txt) (w4c3 : List Use) (w4c4 : List Txt) (w4c5 : List Txt) (n : Nat) : Int → Option Bool := fun k5 => its_f_41_2 N nxS0 n (S_f_41_2 b i3 w4c0 w4c1 w4c2 w4c3 w4c4 w4c5 k5)
theorem fe_f_41_2 (N : Nat) (nxS0 : St → Option Bool) (b : Book) : it_f_41_2 N nxS0 b = f_41_2 N (fun i3 => nxS0 (S_f_41_0 b i3)) b := funext fun i3 => funext fun w4c0 => funext fun w4c1 => funext fun w4c2 => funext fun w4c3 => funext fun w4c4 => funext fun w4c5 => funext (lp_all (by kernel_rfl) fun n => by
 show _ = f_41_2r N (fun i3 => nxS0 (S_f_41_0 b i3)) b i3 w4c0 w4c1 w4c2 w4c3 w4c4 w4c5 (it_f_41_2 N nxS0 b i3 w4c0 w4c1 w4c2 w4c3 w4c4 w4c5 n)
 kernel_rfl)
noncomputable def its_f_41_0 (N : Nat) (n : Nat) : St → Option Bool := fun S' => iter [] (annAt fi_f_41 0) (code (E_f_41 N) (lpIn fi_f_41.body 0 0) 0) n S' (contOf (E_f_41 N) fi_f_41.body 0 0 K_f_41)
noncomputable def it_f_41_0 (N : Nat) (b : Book) (n : Nat) : Int → Option Bool := fun i3 => its_f_41_0 N n (S_f_41_0 b i3)
theorem fe_f_41_0 (N : Nat) : it_f_41_0 N = f_41_0 N := funext fun b => funext (lp_all (by kernel_rfl) fun n => by
 show _ = f_41_0r N (f_41_2 N (it_f_41_0 N b n) b) b (it_f_41_0 N b n)
 rw [show f_41_2 N (it_f_41_0 N b n) b = it_f_41_2 N (its_f_41_0 N n) b from (fe_f_41_2 N (its_f_41_0 N n) b).symm]
 kernel_rfl)
theorem run_f_41 (N : Nat) (b : Book) : runST (ofDs [.bool]) (tabOf tabL) (tabS (phiL_f_41 N)) inl0 N fi_f_41 sg_f_41 [⟨tBook, b⟩] = F.f_41 N b := by
 show _ = F.f_41b N (F.f_41_0 N) b
 rw [← fe_f_41_0 N]
 kernel_rfl
def sm_f_41 (N : Nat) : Summ := summOf [.d tBook true] false [.d (.bool) false] [.bool] (F.f_41 N)
theorem con_f_41 (N : Nat) : Contract Try.prog 53 (sm_f_41 N) := con_of (N := N) tabOK mixed (callOK_list (l := phiL_f_41 N) (allc rfl (con_f_49 N) (allc rfl (con_f_75 N) (allc rfl (con_f_57 N) (allc rfl (con_f_40 N) trivial))))) (inl0_ok _) ok_f_41 (by decide) fun b => run_f_41 N b
def an_f_27 : Nat → Option Ann
 | 0 => some ⟨⟨[(1, kp), (3, kp)], [(1, [kp, kp, kp, kp, kp])], []⟩, [(0, ⟨[(1, kp)], [(1, [kp, kp, kp, kp, kp])], []⟩)], ⟨[(2, kp)], [], []⟩⟩
 | _ => none
noncomputable def fi_f_27 : FI := ⟨Try.f15.results.toList, bodyOf Try.f15.body, Try.f15.ntmps, an_f_27⟩
theorem ok_f_27 : FnOK Try.prog 15 fi_f_27 := ⟨⟨Try.f15, Try.func15, by kernel_rfl, rfl, rfl, by kernel_rfl⟩, by kernel_rfl⟩
def phiL_f_27 (N : Nat) : List (Nat × Summ) := [(51, sm_f_48 N), (38, sm_f_37 N), (36, sm_f_95 N), (52, sm_f_50 N), (53, sm_f_41 N)]
def sg_f_27 : Summ := sigOf [.d tBook true] false [.d (.bool) false]
def S_f_27_0 (b : Book) (i3 : Int) : St := ⟨[(1, vb 1), (3, vv tInt i3)], [(1, .box [.v tFoe.slice b.1, .v tSpot.slice b.2.1, .v tTxts b.2.2.1, .v tPart.slice b.2.2.2.1, .v tInt b.2.2.2.2])]⟩
noncomputable def E_f_27 (N : Nat) : Env := envOf (tabOf tabL) (tabS (phiL_f_27 N)) inl0 N fi_f_27 []
noncomputable def K_f_27 := (kFun (tabOf tabL) fi_f_27.res (kT (ofDs [.bool]) sg_f_27 []))
noncomputable def its_f_27_0 (N : Nat) (n : Nat) : St → Option Bool := fun S' => iter [] (annAt fi_f_27 0) (code (E_f_27 N) (lpIn fi_f_27.body 0 0) 0) n S' (contOf (E_f_27 N) fi_f_27.body 0 0 K_f_27)
noncomputable def it_f_27_0 (N : Nat) (b : Book) (n : Nat) : Int → Option Bool := fun i3 => its_f_27_0 N n (S_f_27_0 b i3)
theorem fe_f_27_0 (N : Nat) : it_f_27_0 N = f_27_0 N := funext fun b => funext (lp_all (by kernel_rfl) fun n => by
 show _ = f_27_0r N b (it_f_27_0 N b n)
 kernel_rfl)
theorem run_f_27 (N : Nat) (b : Book) : runST (ofDs [.bool]) (tabOf tabL) (tabS (phiL_f_27 N)) inl0 N fi_f_27 sg_f_27 [⟨tBook, b⟩] = F.f_27 N b := by
 show _ = F.f_27b N (F.f_27_0 N) b
 rw [← fe_f_27_0 N]
 kernel_rfl
def sm_f_27 (N : Nat) : Summ := summOf [.d tBook true] false [.d (.bool) false] [.bool] (F.f_27 N)
theorem con_f_27 (N : Nat) : Contract Try.prog 15 (sm_f_27 N) := con_of (N := N) tabOK mixed (callOK_list (l := phiL_f_27 N) (allc rfl (con_f_48 N) (allc rfl (con_f_37 N) (allc rfl (con_f_95 N) (allc rfl (con_f_50 N) (allc rfl (con_f_41 N) trivial)))))) (inl0_ok _) ok_f_27 (by decide) fun b => run_f_27 N b
def an_f_71 : Nat → Option Ann
 | 0 => some ⟨⟨[(1, kp), (2, kp), (3, kp), (4, kp)], [(1, [kp, kp, kp, kp, kp]), (2, [kp, kp, kp, kp, kp]), (3, [.own 1000300 86 tFoe, Dir.dow 1000301 64 [9] tSpot, .own 1000302 9 Ty.str, kp, kp])], []⟩, [(0, ⟨[(1, kp), (2, kp), (3, kp)], [(1, [kp, kp, kp, kp, kp]), (2, [kp, kp, kp, kp, kp]), (3, [.own 1000300 86 tFoe, Dir.dow 1000301 64 [9] tSpot, .own 1000302 9 Ty.str, kp, kp])], []⟩)], ⟨[], [], []⟩⟩
 | 2 => some ⟨⟨[(1, kp), (2, kp), (3, kp), (6, kp)], [(1, [kp, kp, kp, kp, kp]), (2, [kp, kp, kp, kp, kp]), (3, [.own 1000300 86 tFoe, Dir.dow 1000301 64 [9] tSpot, .own 1000302 9 Ty.str, Dir.dow 1000303 89 [9, 75, 9, 9] tPart, kp])], []⟩, [(2, ⟨[(2, kp), (3, kp)], [(2, [kp, kp, kp, kp, kp]), (3, [.own 1000300 86 tFoe, Dir.dow 1000301 64 [9] tSpot, .own 1000302 9 Ty.str, Dir.dow 1000303 89 [9, 75, 9, 9] tPart, kp])], []⟩)], ⟨[], [], []⟩⟩
 | _ => none
noncomputable def fi_f_71 : FI := ⟨Try.f81.results.toList, bodyOf Try.f81.body, Try.f81.ntmps, an_f_71⟩
theorem ok_f_71 : FnOK Try.prog 81 fi_f_71 := ⟨⟨Try.f81, Try.func81, by kernel_rfl, rfl, rfl, by kernel_rfl⟩, by kernel_rfl⟩
def phiL_f_71 (N : Nat) : List (Nat × Summ) := [(123, sm_f_55 N), (124, sm_f_70 N)]
def sg_f_71 : Summ := sigOf [.d tBook true] false [.own tBook true [(86, none), (64, (some [9])), (9, none), (89, (some [9, 75, 9, 9]))]]
def S_f_71_2 (b : Book) (r : List Txt) (t2c4 : Int) (x3c0a : List Foe) (x3c1a : List Spot) (i6 : Int) (x3c3a : List Part) : St := ⟨[(1, vb 1), (2, vb 2), (3, vb 3), (6, vv tInt i6)], [(1, .box [.v tFoe.slice b.1, .v tSpot.slice b.2.1, .v tTxts b.2.2.1, .v tPart.slice b.2.2.2.1, .v tInt b.2.2.2.2]), (2, .box [.emp, .emp, .emp, .emp, .v tInt t2c4]), (3, .box [.arr 1000300, .arr 1000301, .arr 1000302, .arr 1000303, .v tInt b.2.2.2.2]), (1000300, .arr 86 tFoe x3c0a), (1000301, .arr 64 tSpot x3c1a (Dp.yes [9])), (1000302, .arr 9 Ty.str r), (1000303, .arr 89 tPart x3c3a (Dp.yes [9, 75, 9, 9]))]⟩
def S_f_71_0 (b : Book) (r : List Txt) (t2c4 : Int) (x3c0a : List Foe) (i4 : Int) (x3c1a : List Spot) : St := ⟨[(1, vb 1), (2, vb 2), (3, vb 3), (4, vv tInt i4)], [(1, .box [.v tFoe.slice b.1, .v tSpot.slice b.2.1, .v tTxts b.2.2.1, .v tPart.slice b.2.2.2.1, .v tInt b.2.2.2.2]), (2, .box [.emp, .emp, .emp, .emp, .v tInt t2c4]), (3, .box [.arr 1000300, .arr 1000301, .arr 1000302, .emp, .v tInt b.2.2.2.2]), (1000300, .arr 86 tFoe x3c0a), (1000301, .arr 64 tSpot x3c1a (Dp.yes [9])), (1000302, .arr 9 Ty.str r)]⟩
noncomputable def E_f_71 (N : Nat) : Env := envOf (tabOf tabL) (tabS (phiL_f_71 N)) inl0 N fi_f_71 []
noncomputable def K_f_71 := (kFun (tabOf tabL) fi_f_71.res (kT (ofDs [tBook]) sg_f_71 []))
noncomputable def its_f_71_2 (N : Nat) (n : Nat) : St → Option Book := fun S' => iter [] (annAt fi_f_71 2) (code (E_f_71 N) (lpIn fi_f_71.body 0 2) 2) n S' (contOf (E_f_71 N) fi_f_71.body 0 2 K_f_71)
noncomputable def it_f_71_2 (N : Nat) (b : Book) (r : List Txt) (t2c4 : Int) (x3c0a : List Foe) (x3c1a : List Spot) (n : Nat) : Int → (List Part) → Option Book := fun i6 x3c3a => its_f_71_2 N n (S_f_71_2 b r t2c4 x3c0a x3c1a i6 x3c3a)
theorem fe_f_71_2 (N : Nat) : it_f_71_2 N = f_71_2 N := funext fun b => funext fun r => funext fun t2c4 => funext fun x3c0a => funext fun x3c1a => funext (lp_all (by kernel_rfl) fun n => by
 show _ = f_71_2r N b r t2c4 x3c0a x3c1a (it_f_71_2 N b r t2c4 x3c0a x3c1a n)
 kernel_rfl)
noncomputable def its_f_71_0 (N : Nat) (n : Nat) : St → Option Book := fun S' => iter [] (annAt fi_f_71 0) (code (E_f_71 N) (lpIn fi_f_71.body 0 0) 0) n S' (contOf (E_f_71 N) fi_f_71.body 0 0 K_f_71)
noncomputable def it_f_71_0 (N : Nat) (b : Book) (r : List Txt) (t2c4 : Int) (x3c0a : List Foe) (n : Nat) : Int → (List Spot) → Option Book := fun i4 x3c1a => its_f_71_0 N n (S_f_71_0 b r t2c4 x3c0a i4 x3c1a)
theorem fe_f_71_0 (N : Nat) : it_f_71_0 N = f_71_0 N := funext fun b => funext fun r => funext fun t2c4 => funext fun x3c0a => funext (lp_all (by kernel_rfl) fun n => by
 show _ = f_71_0r N (f_71_2 N) b r t2c4 x3c0a (it_f_71_0 N b r t2c4 x3c0a n)
 rw [show f_71_2 N = it_f_71_2 N from (fe_f_71_2 N).symm]
 kernel_rfl)
theorem run_f_71 (N : Nat) (b : Book) : runST (ofDs [tBook]) (tabOf tabL) (tabS (phiL_f_71 N)) inl0 N fi_f_71 sg_f_71 [⟨tBook, b⟩] = F.f_71 N b := by
 show _ = F.f_71b N (F.f_71_0 N) b
 rw [← fe_f_71_0 N]
 kernel_rfl
def sm_f_71 (N : Nat) : Summ := summOf [.d tBook true] false [.own tBook true [(86, none), (64, (some [9])), (9, none), (89, (some [9, 75, 9, 9]))]] [tBook] (F.f_71 N)
theorem con_f_71 (N : Nat) : Contract Try.prog 81 (sm_f_71 N) := con_of (N := N) tabOK mixed (callOK_list (l := phiL_f_71 N) (allc rfl (con_f_55 N) (allc rfl (con_f_70 N) trivial))) (inl0_ok _) ok_f_71 (by decide) fun b => run_f_71 N b
def an_f_36 : Nat → Option Ann := fun _ => none
noncomputable def fi_f_36 : FI := ⟨Try.f75.results.toList, bodyOf Try.f75.body, Try.f75.ntmps, an_f_36⟩
theorem ok_f_36 : FnOK Try.prog 75 fi_f_36 := ⟨⟨Try.f75, Try.func75, by kernel_rfl, rfl, rfl, by kernel_rfl⟩, by kernel_rfl⟩
def phiL_f_36 (N : Nat) : List (Nat × Summ) := [(15, sm_f_27 N), (81, sm_f_71 N), (82, sm_f_73 N)]
def sg_f_36 : Summ := sigOf [.d tBook true, .d tInt false] false [.own tBook true [(86, none), (64, (some [9])), (9, none), (89, (some [9, 75, 9, 9]))], .d tInt false]
theorem run_f_36 (N : Nat) (b : Book) (number : Int) : runST (ofDs [tBook, tInt]) (tabOf tabL) (tabS (phiL_f_36 N)) inl0 N fi_f_36 sg_f_36 [⟨tBook, b⟩, ⟨tInt, number⟩] = F.f_36 N b number := by kernel_rfl
def sm_f_36 (N : Nat) : Summ := summOf [.d tBook true, .d tInt false] false [.own tBook true [(86, none), (64, (some [9])), (9, none), (89, (some [9, 75, 9, 9]))], .d tInt false] [tBook, tInt] (F.f_36 N)
theorem con_f_36 (N : Nat) : Contract Try.prog 75 (sm_f_36 N) := con_of (N := N) tabOK mixed (callOK_list (l := phiL_f_36 N) (allc rfl (con_f_27 N) (allc rfl (con_f_71 N) (allc rfl (con_f_73 N) trivial)))) (inl0_ok _) ok_f_36 (by decide) fun b number => run_f_36 N b number
def an_f_62 : Nat → Option Ann
 | 0 => some ⟨⟨[(1, kp), (2, kp), (5, kp)], [(2, [kp, kp, kp, kp, kp, kp])], []⟩, [(0, ⟨[], [], []⟩)], ⟨[(4, kp)], [], []⟩⟩
 | _ => none
noncomputable def fi_f_62 : FI := ⟨Try.f83.results.toList, bodyOf Try.f83.body, Try.f83.ntmps, an_f_62⟩
theorem ok_f_62 : FnOK Try.prog 83 fi_f_62 := ⟨⟨Try.f83, Try.func83, by kernel_rfl, rfl, rfl, by kernel_rfl⟩, by kernel_rfl⟩
def phiL_f_62 (N : Nat) : List (Nat × Summ) := []
def sg_f_62 : Summ := sigOf [.d tWant true, .d tInt false] false [.d (.bool) false]
def S_f_62_0 (w : Want) (moved : Int) (i5 : Int) : St := ⟨[(1, vv tInt moved), (2, vb 2), (5, vv tInt i5)], [(2, .box [.v tInt w.1, .v tInt w.2.1, .v tTxts w.2.2.1, .v tUse.slice w.2.2.2.1, .v tTxts w.2.2.2.2.1, .v tTxts w.2.2.2.2.2])]⟩
noncomputable def E_f_62 (N : Nat) : Env := envOf (tabOf tabL) (tabS (phiL_f_62 N)) inl0 N fi_f_62 []
noncomputable def K_f_62 := (kFun (tabOf tabL) fi_f_62.res (kT (ofDs [.bool]) sg_f_62 []))
noncomputable def its_f_62_0 (N : Nat) (n : Nat) : St → Option Bool := fun S' => iter [] (annAt fi_f_62 0) (code (E_f_62 N) (lpIn fi_f_62.body 0 0) 0) n S' (contOf (E_f_62 N) fi_f_62.body 0 0 K_f_62)
noncomputable def it_f_62_0 (N : Nat) (w : Want) (moved : Int) (n : Nat) : Int → Option Bool := fun i5 => its_f_62_0 N n (S_f_62_0 w moved i5)
theorem fe_f_62_0 (N : Nat) : it_f_62_0 N = f_62_0 N := funext fun w => funext fun moved => funext (lp_all (by kernel_rfl) fun n => by
 show _ = f_62_0r N w moved (it_f_62_0 N w moved n)
 kernel_rfl)
theorem run_f_62 (N : Nat) (w : Want) (moved : Int) : runST (ofDs [.bool]) (tabOf tabL) (tabS (phiL_f_62 N)) inl0 N fi_f_62 sg_f_62 [⟨tWant, w⟩, ⟨tInt, moved⟩] = F.f_62 N w moved := by
 show _ = F.f_62b N (F.f_62_0 N) w moved
 rw [← fe_f_62_0 N]
 kernel_rfl
def sm_f_62 (N : Nat) : Summ := summOf [.d tWant true, .d tInt false] false [.d (.bool) false] [.bool] (F.f_62 N)
theorem con_f_62 (N : Nat) : Contract Try.prog 83 (sm_f_62 N) := con_of (N := N) tabOK mixed (callOK_list (l := phiL_f_62 N) trivial) (inl0_ok _) ok_f_62 (by decide) fun w moved => run_f_62 N w moved
def an_f_53 : Nat → Option Ann := fun _ => none
noncomputable def fi_f_53 : FI := ⟨Try.f85.results.toList, bodyOf Try.f85.body, Try.f85.ntmps, an_f_53⟩
theorem ok_f_53 : FnOK Try.prog 85 fi_f_53 := ⟨⟨Try.f85, Try.func85, by kernel_rfl, rfl, rfl, by kernel_rfl⟩, by kernel_rfl⟩
def phiL_f_53 (N : Nat) : List (Nat × Summ) := []
def sg_f_53 : Summ := sigOf [.d tSpot true, .d tWant true, .d tUse true, .d tInt false, .d (.bool) false] true [.d tSpot true]
theorem run_f_53 (N : Nat) (s : Spot) (w : Want) (u : Use) (moved : Int) (done : Bool) : runST (ofDs [tSpot]) (tabOf tabL) (tabS (phiL_f_53 N)) inl0 N fi_f_53 sg_f_53 [⟨tSpot, s⟩, ⟨tWant, w⟩, ⟨tUse, u⟩, ⟨tInt, moved⟩, ⟨.bool, done⟩] = F.f_53 N s w u moved done := by kernel_rfl
def sm_f_53 (N : Nat) : Summ := summOf [.d tSpot true, .d tWant true, .d tUse true, .d tInt false, .d (.bool) false] true [.d tSpot true] [tSpot] (F.f_53 N)
theorem con_f_53 (N : Nat) : Contract Try.prog 85 (sm_f_53 N) := con_of (N := N) tabOK mixed (callOK_list (l := phiL_f_53 N) trivial) (inl0_ok _) ok_f_53 (by decide) fun s w u moved done => run_f_53 N s w u moved done
def an_f_35 : Nat → Option Ann
 | 0 => some ⟨⟨[(2, kp), (3, kp), (4, kp), (8, kp), (10, kp), (11, kp), (12, kp), (13, kp)], [(4, [kp, kp, kp, kp, kp]), (8, [kp, kp, kp, kp, kp]), (10, [.own 1001000 86 tFoe, .own 1001001 64 tSpot, .own 1001002 9 Ty.str, Dir.frz tPart, kp]), (12, [kp, kp, kp, kp, kp, kp])], []⟩, [(0, ⟨[(8, kp), (10, kp), (11, kp)], [(8, [kp, kp, kp, kp, kp]), (10, [.own 1001000 86 tFoe, .own 1001001 64 tSpot, .own 1001002 9 Ty.str, Dir.frz tPart, kp])], []⟩)], ⟨[], [], []⟩⟩
 | _ => none
noncomputable def fi_f_35 : FI := ⟨Try.f29.results.toList, bodyOf Try.f29.body, Try.f29.ntmps, an_f_35⟩
theorem ok_f_35 : FnOK Try.prog 29 fi_f_35 := ⟨⟨Try.f29, Try.func29, by kernel_rfl, rfl, rfl, by kernel_rfl⟩, by kernel_rfl⟩
def phiL_f_35 (N : Nat) : List (Nat × Summ) := [(15, sm_f_27 N), (81, sm_f_71 N), (82, sm_f_73 N), (83, sm_f_62 N), (84, sm_f_74 N), (85, sm_f_53 N)]
def sg_f_35 : Summ := sigOf [.d tBook true, .d tInt false, .d tInt false, .d (.bool) false] false [.own tBook true [(86, none), (64, (some [9])), (9, none), (89, (some [9, 75, 9, 9]))], .d tInt false]
def S_f_35_0 (b : Book) (moved : Int) (done : Bool) (r_1 : Book) (r_2 : Int) (t8c4 : Int) (w12c0 : Int) (w12c1 : Int) (w12c2 : List Txt) (w12c3 : List Use) (w12c4 : List Txt) (w12c5 : List Txt) (i13 : Int) (x10c1a : List Spot) : St := ⟨[(2, vv tInt moved), (3, vv Ty.bool done), (4, vb 4), (8, vb 8), (10, vb 10), (11, vv tInt r_2), (12, vb 12), (13, vv tInt i13)], [(4, .box [.v tFoe.slice b.1, .v tSpot.slice b.2.1, .v tTxts b.2.2.1, .v tPart.slice b.2.2.2.1, .v tInt b.2.2.2.2]), (8, .box [.emp, .emp, .emp, .emp, .v tInt t8c4]), (10, .box [.arr 1001000, .arr 1001001, .arr 1001002, .v tPart.slice r_1.2.2.2.1, .v tInt r_1.2.2.2.2]), (12, .box [.v tInt w12c0, .v tInt w12c1, .v tTxts w12c2, .v tUse.slice w12c3, .v tTxts w12c4, .v tTxts w12c5]), (1001000, .arr 86 tFoe r_1.1), (1001001, .arr 64 tSpot x10c1a), (1001002, .arr 9 Ty.str r_1.2.2.1)]⟩
noncomputable def E_f_35 (N : Nat) : Env := envOf (tabOf tabL) (tabS (phiL_f_35 N)) inl0 N fi_f_35 []
noncomputable def K_f_35 := (kFun (tabOf tabL) fi_f_35.res (kT (ofDs [tBook, tInt]) sg_f_35 []))
noncomputable def its_f_35_0 (N : Nat) (n : Nat) : St → Option (Book × Int) := fun S' => iter [] (annAt fi_f_35 0) (code (E_f_35 N) (lpIn fi_f_35.body 0 0) 0) n S' (contOf (E_f_35 N) fi_f_35.body 0 0 K_f_35)
noncomputable def it_f_35_0 (N : Nat) (b : Book) (moved : Int) (done : Bool) (r_1 : Book) (r_2 : Int) (t8c4 : Int) (w12c0 : Int) (w12c1 : Int) (w12c2 : List Txt) (w12c3 : List Use) (w12c4 : List Txt) (w12c5 : List Txt) (n : Nat) : Int → (List Spot) → Option (Book × Int) := fun i13 x10c1a => its_f_35_0 N n (S_f_35_0 b moved done r_1 r_2 t8c4 w12c0 w12c1 w12c2 w12c3 w12c4 w12c5 i13 x10c1a)
theorem fe_f_35_0 (N : Nat) : it_f_35_0 N = f_35_0 N := funext fun b => funext fun moved => funext fun done => funext fun r_1 => funext fun r_2 => funext fun t8c4 => funext fun w12c0 => funext fun w12c1 => funext fun w12c2 => funext fun w12c3 => funext fun w12c4 => funext fun w12c5 => funext (lp_all (by kernel_rfl) fun n => by
 show _ = f_35_0r N b moved done r_1 r_2 t8c4 w12c0 w12c1 w12c2 w12c3 w12c4 w12c5 (it_f_35_0 N b moved done r_1 r_2 t8c4 w12c0 w12c1 w12c2 w12c3 w12c4 w12c5 n)
 kernel_rfl)
theorem run_f_35 (N : Nat) (b : Book) (number : Int) (moved : Int) (done : Bool) : runST (ofDs [tBook, tInt]) (tabOf tabL) (tabS (phiL_f_35 N)) inl0 N fi_f_35 sg_f_35 [⟨tBook, b⟩, ⟨tInt, number⟩, ⟨tInt, moved⟩, ⟨.bool, done⟩] = F.f_35 N b number moved done := by
 show _ = F.f_35b N (F.f_35_0 N) b number moved done
 rw [← fe_f_35_0 N]
 kernel_rfl
def sm_f_35 (N : Nat) : Summ := summOf [.d tBook true, .d tInt false, .d tInt false, .d (.bool) false] false [.own tBook true [(86, none), (64, (some [9])), (9, none), (89, (some [9, 75, 9, 9]))], .d tInt false] [tBook, tInt] (F.f_35 N)
theorem con_f_35 (N : Nat) : Contract Try.prog 29 (sm_f_35 N) := con_of (N := N) tabOK mixed (callOK_list (l := phiL_f_35 N) (allc rfl (con_f_27 N) (allc rfl (con_f_71 N) (allc rfl (con_f_73 N) (allc rfl (con_f_62 N) (allc rfl (con_f_74 N) (allc rfl (con_f_53 N) trivial))))))) (inl0_ok _) ok_f_35 (by decide) fun b number moved done => run_f_35 N b number moved done
def an_f_54 : Nat → Option Ann
 | 0 => some ⟨⟨[(0, kp), (1, kp), (5, kp)], [], []⟩, [(0, ⟨[], [], []⟩)], ⟨[(4, kp)], [], []⟩⟩
 | _ => none
noncomputable def fi_f_54 : FI := ⟨Try.f148.results.toList, bodyOf Try.f148.body, Try.f148.ntmps, an_f_54⟩
theorem ok_f_54 : FnOK Try.prog 148 fi_f_54 := ⟨⟨Try.f148, Try.func148, by kernel_rfl, rfl, rfl, by kernel_rfl⟩, by kernel_rfl⟩
def phiL_f_54 (N : Nat) : List (Nat × Summ) := []
def sg_f_54 : Summ := sigOf [.d tTxts false, .d tTxts false] false [.d (.bool) false]
def S_f_54_0 (a : List Txt) (b : List Txt) (i5 : Int) : St := ⟨[(0, vv tTxts a), (1, vv tTxts b), (5, vv tInt i5)], []⟩
noncomputable def E_f_54 (N : Nat) : Env := envOf (tabOf tabL) (tabS (phiL_f_54 N)) inl0 N fi_f_54 []
noncomputable def K_f_54 := (kFun (tabOf tabL) fi_f_54.res (kT (ofDs [.bool]) sg_f_54 []))
noncomputable def its_f_54_0 (N : Nat) (n : Nat) : St → Option Bool := fun S' => iter [] (annAt fi_f_54 0) (code (E_f_54 N) (lpIn fi_f_54.body 0 0) 0) n S' (contOf (E_f_54 N) fi_f_54.body 0 0 K_f_54)
noncomputable def it_f_54_0 (N : Nat) (a : List Txt) (b : List Txt) (n : Nat) : Int → Option Bool := fun i5 => its_f_54_0 N n (S_f_54_0 a b i5)
theorem fe_f_54_0 (N : Nat) : it_f_54_0 N = f_54_0 N := funext fun a => funext fun b => funext (lp_all (by kernel_rfl) fun n => by
 show _ = f_54_0r N a b (it_f_54_0 N a b n)
 kernel_rfl)
theorem run_f_54 (N : Nat) (a : List Txt) (b : List Txt) : runST (ofDs [.bool]) (tabOf tabL) (tabS (phiL_f_54 N)) inl0 N fi_f_54 sg_f_54 [⟨tTxts, a⟩, ⟨tTxts, b⟩] = F.f_54 N a b := by
 show _ = F.f_54b N (F.f_54_0 N) a b
 rw [← fe_f_54_0 N]
 kernel_rfl
def sm_f_54 (N : Nat) : Summ := summOf [.d tTxts false, .d tTxts false] false [.d (.bool) false] [.bool] (F.f_54 N)
theorem con_f_54 (N : Nat) : Contract Try.prog 148 (sm_f_54 N) := con_of (N := N) tabOK mixed (callOK_list (l := phiL_f_54 N) trivial) (inl0_ok _) ok_f_54 (by decide) fun a b => run_f_54 N a b
def an_f_69 : Nat → Option Ann
 | 0 => some ⟨⟨[(2, kp), (3, kp), (5, kp)], [(2, [kp, kp, kp, kp, kp, kp]), (3, [kp, kp, kp, kp, kp, kp])], []⟩, [(0, ⟨[], [], []⟩)], ⟨[(4, kp)], [], []⟩⟩
 | _ => none
noncomputable def fi_f_69 : FI := ⟨Try.f145.results.toList, bodyOf Try.f145.body, Try.f145.ntmps, an_f_69⟩
theorem ok_f_69 : FnOK Try.prog 145 fi_f_69 := ⟨⟨Try.f145, Try.func145, by kernel_rfl, rfl, rfl, by kernel_rfl⟩, by kernel_rfl⟩
def phiL_f_69 (N : Nat) : List (Nat × Summ) := [(148, sm_f_54 N)]
def sg_f_69 : Summ := sigOf [.d tWant true, .d tWant true] false [.d (.bool) false]
def S_f_69_0 (a : Want) (b : Want) (i5 : Int) : St := ⟨[(2, vb 2), (3, vb 3), (5, vv tInt i5)], [(2, .box [.v tInt a.1, .v tInt a.2.1, .v tTxts a.2.2.1, .v tUse.slice a.2.2.2.1, .v tTxts a.2.2.2.2.1, .v tTxts a.2.2.2.2.2]), (3, .box [.v tInt b.1, .v tInt b.2.1, .v tTxts b.2.2.1, .v tUse.slice b.2.2.2.1, .v tTxts b.2.2.2.2.1, .v tTxts b.2.2.2.2.2])]⟩
noncomputable def E_f_69 (N : Nat) : Env := envOf (tabOf tabL) (tabS (phiL_f_69 N)) inl0 N fi_f_69 []
noncomputable def K_f_69 := (kFun (tabOf tabL) fi_f_69.res (kT (ofDs [.bool]) sg_f_69 []))
noncomputable def its_f_69_0 (N : Nat) (n : Nat) : St → Option Bool := fun S' => iter [] (annAt fi_f_69 0) (code (E_f_69 N) (lpIn fi_f_69.body 0 0) 0) n S' (contOf (E_f_69 N) fi_f_69.body 0 0 K_f_69)
noncomputable def it_f_69_0 (N : Nat) (a : Want) (b : Want) (n : Nat) : Int → Option Bool := fun i5 => its_f_69_0 N n (S_f_69_0 a b i5)
theorem fe_f_69_0 (N : Nat) : it_f_69_0 N = f_69_0 N := funext fun a => funext fun b => funext (lp_all (by kernel_rfl) fun n => by
 show _ = f_69_0r N a b (it_f_69_0 N a b n)
 kernel_rfl)
theorem run_f_69 (N : Nat) (a : Want) (b : Want) : runST (ofDs [.bool]) (tabOf tabL) (tabS (phiL_f_69 N)) inl0 N fi_f_69 sg_f_69 [⟨tWant, a⟩, ⟨tWant, b⟩] = F.f_69 N a b := by
 show _ = F.f_69b N (F.f_69_0 N) a b
 rw [← fe_f_69_0 N]
 kernel_rfl
def sm_f_69 (N : Nat) : Summ := summOf [.d tWant true, .d tWant true] false [.d (.bool) false] [.bool] (F.f_69 N)
theorem con_f_69 (N : Nat) : Contract Try.prog 145 (sm_f_69 N) := con_of (N := N) tabOK mixed (callOK_list (l := phiL_f_69 N) (allc rfl (con_f_54 N) trivial)) (inl0_ok _) ok_f_69 (by decide) fun a b => run_f_69 N a b
def an_f_39 : Nat → Option Ann
 | 0 => some ⟨⟨[(1, kp), (2, kp), (3, kp), (7, kp)], [(3, [kp, kp, kp, kp, kp])], []⟩, [(0, ⟨[], [], []⟩)], ⟨[(6, kp)], [], []⟩⟩
 | _ => none
noncomputable def fi_f_39 : FI := ⟨Try.f149.results.toList, bodyOf Try.f149.body, Try.f149.ntmps, an_f_39⟩
theorem ok_f_39 : FnOK Try.prog 149 fi_f_39 := ⟨⟨Try.f149, Try.func149, by kernel_rfl, rfl, rfl, by kernel_rfl⟩, by kernel_rfl⟩
def phiL_f_39 (N : Nat) : List (Nat × Summ) := [(96, sm_f_58 N)]
def sg_f_39 : Summ := sigOf [.d tBook true, .d tTxts false, .d tTxts false] false [.d (.bool) false]
def S_f_39_0 (b : Book) (x : List Txt) (y : List Txt) (i7 : Int) : St := ⟨[(1, vv tTxts x), (2, vv tTxts y), (3, vb 3), (7, vv tInt i7)], [(3, .box [.v tFoe.slice b.1, .v tSpot.slice b.2.1, .v tTxts b.2.2.1, .v tPart.slice b.2.2.2.1, .v tInt b.2.2.2.2])]⟩
noncomputable def E_f_39 (N : Nat) : Env := envOf (tabOf tabL) (tabS (phiL_f_39 N)) inl0 N fi_f_39 []
noncomputable def K_f_39 := (kFun (tabOf tabL) fi_f_39.res (kT (ofDs [.bool]) sg_f_39 []))
noncomputable def its_f_39_0 (N : Nat) (n : Nat) : St → Option Bool := fun S' => iter [] (annAt fi_f_39 0) (code (E_f_39 N) (lpIn fi_f_39.body 0 0) 0) n S' (contOf (E_f_39 N) fi_f_39.body 0 0 K_f_39)
noncomputable def it_f_39_0 (N : Nat) (b : Book) (x : List Txt) (y : List Txt) (n : Nat) : Int → Option Bool := fun i7 => its_f_39_0 N n (S_f_39_0 b x y i7)
theorem fe_f_39_0 (N : Nat) : it_f_39_0 N = f_39_0 N := funext fun b => funext fun x => funext fun y => funext (lp_all (by kernel_rfl) fun n => by
 show _ = f_39_0r N b x y (it_f_39_0 N b x y n)
 kernel_rfl)
theorem run_f_39 (N : Nat) (b : Book) (x : List Txt) (y : List Txt) : runST (ofDs [.bool]) (tabOf tabL) (tabS (phiL_f_39 N)) inl0 N fi_f_39 sg_f_39 [⟨tBook, b⟩, ⟨tTxts, x⟩, ⟨tTxts, y⟩] = F.f_39 N b x y := by
 show _ = F.f_39b N (F.f_39_0 N) b x y
 rw [← fe_f_39_0 N]
 kernel_rfl
def sm_f_39 (N : Nat) : Summ := summOf [.d tBook true, .d tTxts false, .d tTxts false] false [.d (.bool) false] [.bool] (F.f_39 N)
theorem con_f_39 (N : Nat) : Contract Try.prog 149 (sm_f_39 N) := con_of (N := N) tabOK mixed (callOK_list (l := phiL_f_39 N) (allc rfl (con_f_58 N) trivial)) (inl0_ok _) ok_f_39 (by decide) fun b x y => run_f_39 N b x y
def an_f_61 : Nat → Option Ann
 | 0 => some ⟨⟨[(0, kp), (1, kp), (5, kp), (6, kp)], [], []⟩, [(0, ⟨[(5, kp)], [], []⟩)], ⟨[], [], []⟩⟩
 | _ => none
noncomputable def fi_f_61 : FI := ⟨Try.f150.results.toList, bodyOf Try.f150.body, Try.f150.ntmps, an_f_61⟩
theorem ok_f_61 : FnOK Try.prog 150 fi_f_61 := ⟨⟨Try.f150, Try.func150, by kernel_rfl, rfl, rfl, by kernel_rfl⟩, by kernel_rfl⟩
def phiL_f_61 (N : Nat) : List (Nat × Summ) := [(65, sm_f_90 N)]
def sg_f_61 : Summ := sigOf [.d tTxts false, .d tTxts false] false [.d tInt false]
def S_f_61_0 (a : List Txt) (b : List Txt) (n5 : Int) (i6 : Int) : St := ⟨[(0, vv tTxts a), (1, vv tTxts b), (5, vv tInt n5), (6, vv tInt i6)], []⟩
noncomputable def E_f_61 (N : Nat) : Env := envOf (tabOf tabL) (tabS (phiL_f_61 N)) inl0 N fi_f_61 []
noncomputable def K_f_61 := (kFun (tabOf tabL) fi_f_61.res (kT (ofDs [tInt]) sg_f_61 []))
noncomputable def its_f_61_0 (N : Nat) (n : Nat) : St → Option Int := fun S' => iter [] (annAt fi_f_61 0) (code (E_f_61 N) (lpIn fi_f_61.body 0 0) 0) n S' (contOf (E_f_61 N) fi_f_61.body 0 0 K_f_61)
noncomputable def it_f_61_0 (N : Nat) (a : List Txt) (b : List Txt) (n : Nat) : Int → Int → Option Int := fun n5 i6 => its_f_61_0 N n (S_f_61_0 a b n5 i6)
theorem fe_f_61_0 (N : Nat) : it_f_61_0 N = f_61_0 N := funext fun a => funext fun b => funext (lp_all (by kernel_rfl) fun n => by
 show _ = f_61_0r N a b (it_f_61_0 N a b n)
 kernel_rfl)
theorem run_f_61 (N : Nat) (a : List Txt) (b : List Txt) : runST (ofDs [tInt]) (tabOf tabL) (tabS (phiL_f_61 N)) inl0 N fi_f_61 sg_f_61 [⟨tTxts, a⟩, ⟨tTxts, b⟩] = F.f_61 N a b := by
 show _ = F.f_61b N (F.f_61_0 N) a b
 rw [← fe_f_61_0 N]
 kernel_rfl
def sm_f_61 (N : Nat) : Summ := summOf [.d tTxts false, .d tTxts false] false [.d tInt false] [tInt] (F.f_61 N)
theorem con_f_61 (N : Nat) : Contract Try.prog 150 (sm_f_61 N) := con_of (N := N) tabOK mixed (callOK_list (l := phiL_f_61 N) (allc rfl (con_f_90 N) trivial)) (inl0_ok _) ok_f_61 (by decide) fun a b => run_f_61 N a b
def an_f_52 : Nat → Option Ann
 | 0 => some ⟨⟨[(2, kp), (3, kp), (5, kp)], [(2, [kp, kp, kp, kp, kp]), (3, [kp, kp, kp, kp, kp, kp])], []⟩, [(0, ⟨[], [], []⟩)], ⟨[(4, kp)], [], []⟩⟩
 | _ => none
noncomputable def fi_f_52 : FI := ⟨Try.f146.results.toList, bodyOf Try.f146.body, Try.f146.ntmps, an_f_52⟩
theorem ok_f_52 : FnOK Try.prog 146 fi_f_52 := ⟨⟨Try.f146, Try.func146, by kernel_rfl, rfl, rfl, by kernel_rfl⟩, by kernel_rfl⟩
def phiL_f_52 (N : Nat) : List (Nat × Summ) := [(149, sm_f_39 N), (84, sm_f_74 N), (137, sm_f_89 N), (150, sm_f_61 N)]
def sg_f_52 : Summ := sigOf [.d tBook true, .d tWant true] false [.d tInt false]
def S_f_52_0 (b : Book) (w : Want) (i5 : Int) : St := ⟨[(2, vb 2), (3, vb 3), (5, vv tInt i5)], [(2, .box [.v tFoe.slice b.1, .v tSpot.slice b.2.1, .v tTxts b.2.2.1, .v tPart.slice b.2.2.2.1, .v tInt b.2.2.2.2]), (3, .box [.v tInt w.1, .v tInt w.2.1, .v tTxts w.2.2.1, .v tUse.slice w.2.2.2.1, .v tTxts w.2.2.2.2.1, .v tTxts w.2.2.2.2.2])]⟩
noncomputable def E_f_52 (N : Nat) : Env := envOf (tabOf tabL) (tabS (phiL_f_52 N)) inl0 N fi_f_52 []
noncomputable def K_f_52 := (kFun (tabOf tabL) fi_f_52.res (kT (ofDs [tInt]) sg_f_52 []))
noncomputable def its_f_52_0 (N : Nat) (n : Nat) : St → Option Int := fun S' => iter [] (annAt fi_f_52 0) (code (E_f_52 N) (lpIn fi_f_52.body 0 0) 0) n S' (contOf (E_f_52 N) fi_f_52.body 0 0 K_f_52)
noncomputable def it_f_52_0 (N : Nat) (b : Book) (w : Want) (n : Nat) : Int → Option Int := fun i5 => its_f_52_0 N n (S_f_52_0 b w i5)
theorem fe_f_52_0 (N : Nat) : it_f_52_0 N = f_52_0 N := funext fun b => funext fun w => funext (lp_all (by kernel_rfl) fun n => by
 show _ = f_52_0r N b w (it_f_52_0 N b w n)
 kernel_rfl)
theorem run_f_52 (N : Nat) (b : Book) (w : Want) : runST (ofDs [tInt]) (tabOf tabL) (tabS (phiL_f_52 N)) inl0 N fi_f_52 sg_f_52 [⟨tBook, b⟩, ⟨tWant, w⟩] = F.f_52 N b w := by
 show _ = F.f_52b N (F.f_52_0 N) b w
 rw [← fe_f_52_0 N]
 kernel_rfl
def sm_f_52 (N : Nat) : Summ := summOf [.d tBook true, .d tWant true] false [.d tInt false] [tInt] (F.f_52 N)
theorem con_f_52 (N : Nat) : Contract Try.prog 146 (sm_f_52 N) := con_of (N := N) tabOK mixed (callOK_list (l := phiL_f_52 N) (allc rfl (con_f_39 N) (allc rfl (con_f_74 N) (allc rfl (con_f_89 N) (allc rfl (con_f_61 N) trivial))))) (inl0_ok _) ok_f_52 (by decide) fun b w => run_f_52 N b w
def an_f_42 : Nat → Option Ann
 | 0 => some ⟨⟨[(2, kp), (3, kp), (5, kp)], [(2, [kp, kp, kp, kp, kp]), (3, [kp, kp, kp, kp, kp, kp])], []⟩, [(0, ⟨[], [], []⟩)], ⟨[(4, kp)], [], []⟩⟩
 | _ => none
noncomputable def fi_f_42 : FI := ⟨Try.f147.results.toList, bodyOf Try.f147.body, Try.f147.ntmps, an_f_42⟩
theorem ok_f_42 : FnOK Try.prog 147 fi_f_42 := ⟨⟨Try.f147, Try.func147, by kernel_rfl, rfl, rfl, by kernel_rfl⟩, by kernel_rfl⟩
def phiL_f_42 (N : Nat) : List (Nat × Summ) := [(84, sm_f_74 N)]
def sg_f_42 : Summ := sigOf [.d tBook true, .d tWant true] false [.d tInt false]
def S_f_42_0 (b : Book) (w : Want) (i5 : Int) : St := ⟨[(2, vb 2), (3, vb 3), (5, vv tInt i5)], [(2, .box [.v tFoe.slice b.1, .v tSpot.slice b.2.1, .v tTxts b.2.2.1, .v tPart.slice b.2.2.2.1, .v tInt b.2.2.2.2]), (3, .box [.v tInt w.1, .v tInt w.2.1, .v tTxts w.2.2.1, .v tUse.slice w.2.2.2.1, .v tTxts w.2.2.2.2.1, .v tTxts w.2.2.2.2.2])]⟩
noncomputable def E_f_42 (N : Nat) : Env := envOf (tabOf tabL) (tabS (phiL_f_42 N)) inl0 N fi_f_42 []
noncomputable def K_f_42 := (kFun (tabOf tabL) fi_f_42.res (kT (ofDs [tInt]) sg_f_42 []))
noncomputable def its_f_42_0 (N : Nat) (n : Nat) : St → Option Int := fun S' => iter [] (annAt fi_f_42 0) (code (E_f_42 N) (lpIn fi_f_42.body 0 0) 0) n S' (contOf (E_f_42 N) fi_f_42.body 0 0 K_f_42)
noncomputable def it_f_42_0 (N : Nat) (b : Book) (w : Want) (n : Nat) : Int → Option Int := fun i5 => its_f_42_0 N n (S_f_42_0 b w i5)
theorem fe_f_42_0 (N : Nat) : it_f_42_0 N = f_42_0 N := funext fun b => funext fun w => funext (lp_all (by kernel_rfl) fun n => by
 show _ = f_42_0r N b w (it_f_42_0 N b w n)
 kernel_rfl)
theorem run_f_42 (N : Nat) (b : Book) (w : Want) : runST (ofDs [tInt]) (tabOf tabL) (tabS (phiL_f_42 N)) inl0 N fi_f_42 sg_f_42 [⟨tBook, b⟩, ⟨tWant, w⟩] = F.f_42 N b w := by
 show _ = F.f_42b N (F.f_42_0 N) b w
 rw [← fe_f_42_0 N]
 kernel_rfl
def sm_f_42 (N : Nat) : Summ := summOf [.d tBook true, .d tWant true] false [.d tInt false] [tInt] (F.f_42 N)
theorem con_f_42 (N : Nat) : Contract Try.prog 147 (sm_f_42 N) := con_of (N := N) tabOK mixed (callOK_list (l := phiL_f_42 N) (allc rfl (con_f_74 N) trivial)) (inl0_ok _) ok_f_42 (by decide) fun b w => run_f_42 N b w
def an_f_34 : Nat → Option Ann
 | 0 => some ⟨⟨[(2, kp), (3, kp), (6, kp)], [(2, [kp, kp, kp, kp, kp]), (3, [kp, kp, kp, kp, kp, kp])], []⟩, [(0, ⟨[(2, kp), (3, kp)], [(2, [kp, kp, kp, kp, kp]), (3, [kp, kp, kp, kp, kp, kp])], []⟩)], ⟨[(4, kp)], [], []⟩⟩
 | 2 => some ⟨⟨[(2, kp), (3, kp), (7, kp)], [(2, [kp, kp, kp, kp, kp]), (3, [kp, kp, kp, kp, kp, kp])], []⟩, [(2, ⟨[(2, kp), (3, kp)], [(2, [kp, kp, kp, kp, kp]), (3, [kp, kp, kp, kp, kp, kp])], []⟩)], ⟨[(4, kp)], [], []⟩⟩
 | _ => none
noncomputable def fi_f_34 : FI := ⟨Try.f141.results.toList, bodyOf Try.f141.body, Try.f141.ntmps, an_f_34⟩
theorem ok_f_34 : FnOK Try.prog 141 fi_f_34 := ⟨⟨Try.f141, Try.func141, by kernel_rfl, rfl, rfl, by kernel_rfl⟩, by kernel_rfl⟩
def phiL_f_34 (N : Nat) : List (Nat × Summ) := [(15, sm_f_27 N), (10, sm_f_28 N), (127, sm_f_59 N), (82, sm_f_73 N), (145, sm_f_69 N), (98, sm_f_75 N), (39, sm_f_57 N), (99, sm_f_40 N), (146, sm_f_52 N), (147, sm_f_42 N)]
def sg_f_34 : Summ := sigOf [.d tBook true, .d tWant true] false [.d tInt false]
def S_f_34_2 (b : Book) (w : Want) (i7 : Int) : St := ⟨[(2, vb 2), (3, vb 3), (7, vv tInt i7)], [(2, .box [.v tFoe.slice b.1, .v tSpot.slice b.2.1, .v tTxts b.2.2.1, .v tPart.slice b.2.2.2.1, .v tInt b.2.2.2.2]), (3, .box [.v tInt w.1, .v tInt w.2.1, .v tTxts w.2.2.1, .v tUse.slice w.2.2.2.1, .v tTxts w.2.2.2.2.1, .v tTxts w.2.2.2.2.2])]⟩
def S_f_34_0 (b : Book) (w : Want) (i6 : Int) : St := ⟨[(2, vb 2), (3, vb 3), (6, vv tInt i6)], [(2, .box [.v tFoe.slice b.1, .v tSpot.slice b.2.1, .v tTxts b.2.2.1, .v tPart.slice b.2.2.2.1, .v tInt b.2.2.2.2]), (3, .box [.v tInt w.1, .v tInt w.2.1, .v tTxts w.2.2.1, .v tUse.slice w.2.2.2.1, .v tTxts w.2.2.2.2.1, .v tTxts w.2.2.2.2.2])]⟩
noncomputable def E_f_34 (N : Nat) : Env := envOf (tabOf tabL) (tabS (phiL_f_34 N)) inl0 N fi_f_34 []
noncomputable def K_f_34 := (kFun (tabOf tabL) fi_f_34.res (kT (ofDs [tInt]) sg_f_34 []))
noncomputable def its_f_34_2 (N : Nat) (n : Nat) : St → Option Int := fun S' => iter [] (annAt fi_f_34 2) (code (E_f_34 N) (lpIn fi_f_34.body 0 2) 2) n S' (contOf (E_f_34 N) fi_f_34.body 0 2 K_f_34)
noncomputable def it_f_34_2 (N : Nat) (b : Book) (w : Want) (n : Nat) : Int → Option Int := fun i7 => its_f_34_2 N n (S_f_34_2 b w i7)
theorem fe_f_34_2 (N : Nat) : it_f_34_2 N = f_34_2 N := funext fun b => funext fun w => funext (lp_all (by kernel_rfl) fun n => by
 show _ = f_34_2r N b w (it_f_34_2 N b w n)
 kernel_rfl)
noncomputable def its_f_34_0 (N : Nat) (n : Nat) : St → Option Int := fun S' => iter [] (annAt fi_f_34 0) (code (E_f_34 N) (lpIn fi_f_34.body 0 0) 0) n S' (contOf (E_f_34 N) fi_f_34.body 0 0 K_f_34)
noncomputable def it_f_34_0 (N : Nat) (b : Book) (w : Want) (n : Nat) : Int → Option Int := fun i6 => its_f_34_0 N n (S_f_34_0 b w i6)
theorem fe_f_34_0 (N : Nat) : it_f_34_0 N = f_34_0 N := funext fun b => funext fun w => funext (lp_all (by kernel_rfl) fun n => by
 show _ = f_34_0r N (f_34_2 N) b w (it_f_34_0 N b w n)
 rw [show f_34_2 N = it_f_34_2 N from (fe_f_34_2 N).symm]
 kernel_rfl)
theorem run_f_34 (N : Nat) (b : Book) (w : Want) : runST (ofDs [tInt]) (tabOf tabL) (tabS (phiL_f_34 N)) inl0 N fi_f_34 sg_f_34 [⟨tBook, b⟩, ⟨tWant, w⟩] = F.f_34 N b w := by
 show _ = F.f_34b N (F.f_34_0 N) b w
 rw [← fe_f_34_0 N]
 kernel_rfl
def sm_f_34 (N : Nat) : Summ := summOf [.d tBook true, .d tWant true] false [.d tInt false] [tInt] (F.f_34 N)
theorem con_f_34 (N : Nat) : Contract Try.prog 141 (sm_f_34 N) := con_of (N := N) tabOK mixed (callOK_list (l := phiL_f_34 N) (allc rfl (con_f_27 N) (allc rfl (con_f_28 N) (allc rfl (con_f_59 N) (allc rfl (con_f_73 N) (allc rfl (con_f_69 N) (allc rfl (con_f_75 N) (allc rfl (con_f_57 N) (allc rfl (con_f_40 N) (allc rfl (con_f_52 N) (allc rfl (con_f_42 N) trivial))))))))))) (inl0_ok _) ok_f_34 (by decide) fun b w => run_f_34 N b w
def an_f_91 : Nat → Option Ann
 | 0 => some ⟨⟨[(2, kp), (3, kp), (4, kp), (5, kp)], [(2, [.own 1000200 86 tFoe, .own 1000201 64 tSpot, .own 1000202 9 Ty.str, Dir.dow 1000203 89 [9, 75, 9, 9] tPart, kp]), (3, [kp, kp, kp, kp, kp, kp]), (4, [kp, kp, kp, kp, kp])], []⟩, [(0, ⟨[(2, kp), (3, kp), (4, kp)], [(2, [.own 1000200 86 tFoe, .own 1000201 64 tSpot, .own 1000202 9 Ty.str, Dir.dow 1000203 89 [9, 75, 9, 9] tPart, kp]), (3, [kp, kp, kp, kp, kp, kp]), (4, [kp, kp, kp, kp, kp])], []⟩)], ⟨[], [], []⟩⟩
 | 2 => some ⟨⟨[(2, kp), (3, kp), (4, kp), (5, kp), (6, kp), (7, kp), (8, kp)], [(2, [.own 1000200 86 tFoe, .own 1000201 64 tSpot, .own 1000202 9 Ty.str, Dir.dow 1000203 89 [9, 75, 9, 9] tPart, kp]), (3, [kp, kp, kp, kp, kp, kp]), (4, [kp, kp, kp, kp, kp]), (6, [kp, kp, kp])], []⟩, [(2, ⟨[(2, kp), (3, kp), (4, kp), (5, kp)], [(2, [.own 1000200 86 tFoe, .own 1000201 64 tSpot, .own 1000202 9 Ty.str, Dir.dow 1000203 89 [9, 75, 9, 9] tPart, kp]), (3, [kp, kp, kp, kp, kp, kp]), (4, [kp, kp, kp, kp, kp])], []⟩)], ⟨[], [], []⟩⟩
 | _ => none
noncomputable def fi_f_91 : FI := ⟨Try.f142.results.toList, bodyOf Try.f142.body, Try.f142.ntmps, an_f_91⟩
theorem ok_f_91 : FnOK Try.prog 142 fi_f_91 := ⟨⟨Try.f142, Try.func142, by kernel_rfl, rfl, rfl, by kernel_rfl⟩, by kernel_rfl⟩
def phiL_f_91 (N : Nat) : List (Nat × Summ) := [(84, sm_f_74 N), (143, sm_f_51 N), (124, sm_f_70 N)]
def sg_f_91 : Summ := sigOf [.sp [.mv 86 tFoe none, .mv 64 tSpot (some [9]), .mv 9 (.str) none, .mv 89 tPart (some [9, 75, 9, 9]), .dd tInt], .d tWant true] true [.own tBook true [(86, none), (64, none), (9, none), (89, (some [9, 75, 9, 9]))]]
def S_f_91_2 (b0 : List Foe) (b2 : List Txt) (b3 : List Part) (b4 : Int) (w : Want) (t4c4 : Int) (i5 : Int) (r_4 : Int) (u6c0_1 : Txt) (u6c1_1 : Int) (u6c2_1 : Int) (n8_1 : Int) (b2c1a_2 : List Spot) : St := ⟨[(2, vb 2), (3, vb 3), (4, vb 4), (5, vv tInt i5), (6, vb 6), (7, vv tInt r_4), (8, vv tInt n8_1)], [(2, .box [.arr 1000200, .arr 1000201, .arr 1000202, .arr 1000203, .v tInt b4]), (3, .box [.v tInt w.1, .v tInt w.2.1, .v tTxts w.2.2.1, .v tUse.slice w.2.2.2.1, .v tTxts w.2.2.2.2.1, .v tTxts w.2.2.2.2.2]), (4, .box [.emp, .emp, .emp, .emp, .v tInt t4c4]), (6, .box [.v Ty.str u6c0_1, .v tInt u6c1_1, .v tInt u6c2_1]), (1000200, .arr 86 tFoe b0), (1000201, .arr 64 tSpot b2c1a_2), (1000202, .arr 9 Ty.str b2), (1000203, .arr 89 tPart b3 (Dp.yes [9, 75, 9, 9]))]⟩
def S_f_91_0 (b0 : List Foe) (b2 : List Txt) (b3 : List Part) (b4 : Int) (w : Want) (t4c4 : Int) (i5 : Int) (b2c1a : List Spot) : St := ⟨[(2, vb 2), (3, vb 3), (4, vb 4), (5, vv tInt i5)], [(2, .box [.arr 1000200, .arr 1000201, .arr 1000202, .arr 1000203, .v tInt b4]), (3, .box [.v tInt w.1, .v tInt w.2.1, .v tTxts w.2.2.1, .v tUse.slice w.2.2.2.1, .v tTxts w.2.2.2.2.1, .v tTxts w.2.2.2.2.2]), (4, .box [.emp, .emp, .emp, .emp, .v tInt t4c4]), (1000200, .arr 86 tFoe b0), (1000201, .arr 64 tSpot b2c1a), (1000202, .arr 9 Ty.str b2), (1000203, .arr 89 tPart b3 (Dp.yes [9, 75, 9, 9]))]⟩
noncomputable def E_f_91 (N : Nat) : Env := envOf (tabOf tabL) (tabS (phiL_f_91 N)) inl0 N fi_f_91 []
noncomputable def K_f_91 := (kFun (tabOf tabL) fi_f_91.res (kT (ofDs [tBook]) sg_f_91 [(600000, .mv 86 tFoe none), (600001, .mv 64 tSpot (some [9])), (600002, .mv 9 (.str) none), (600003, .mv 89 tPart (some [9, 75, 9, 9]))]))
noncomputable def its_f_91_2 (N : Nat) (nxS0 : St → Option Book) (n : Nat) : St → Option Book := fun S' => iter [] (annAt fi_f_91 2) (code (E_f_91 N) (lpIn (lpIn fi_f_91.body 0 0) 0 2) 2) n S' (contOf (E_f_91 N) (lpIn fi_f_91.body 0 0) 0 2 (kLoop [] (annAt fi_f_91 0) nxS0 (contOf (E_f_91 N) fi_f_91.body 0 0 K_f_91)))
noncomputable def it_f_91_2 (N : Nat) (nxS0 : St → Option Book) (b0 : List Foe) (b2 : List Txt) (b3 : List Part) (b4 : Int) (w : Want) (t4c4 : Int) (i5 : Int) (r_4 : Int) (u6c0_1 : Txt) (u6c1_1 : Int) (u6c2_1 : Int) (n : Nat) : Int → (List Spot) → Option Book := fun n8_1 b2c1a_2 => its_f_91_2 N nxS0 n (S_f_91_2 b0 b2 b3 b4 w t4c4 i5 r_4 u6c0_1 u6c1_1 u6c2_1 n8_1 b2c1a_2)
theorem fe_f_91_2 (N : Nat) (nxS0 : St → Option Book) (b0 : List Foe) (b2 : List Txt) (b3 : List Part) (b4 : Int) (w : Want) (t4c4 : Int) : it_f_91_2 N nxS0 b0 b2 b3 b4 w t4c4 = f_91_2 N (fun i5 b2c1a => nxS0 (S_f_91_0 b0 b2 b3 b4 w t4c4 i5 b2c1a)) b0 b2 b3 b4 w t4c4 := funext fun i5 => funext fun r_4 => funext fun u6c0_1 => funext fun u6c1_1 => funext fun u6c2_1 => funext (lp_all (by kernel_rfl) fun n => by
 show _ = f_91_2r N (fun i5 b2c1a => nxS0 (S_f_91_0 b0 b2 b3 b4 w t4c4 i5 b2c1a)) b0 b2 b3 b4 w t4c4 i5 r_4 u6c0_1 u6c1_1 u6c2_1 (it_f_91_2 N nxS0 b0 b2 b3 b4 w t4c4 i5 r_4 u6c0_1 u6c1_1 u6c2_1 n)
 kernel_rfl)
noncomputable def its_f_91_0 (N : Nat) (n : Nat) : St → Option Book := fun S' => iter [] (annAt fi_f_91 0) (code (E_f_91 N) (lpIn fi_f_91.body 0 0) 0) n S' (contOf (E_f_91 N) fi_f_91.body 0 0 K_f_91)
noncomputable def it_f_91_0 (N : Nat) (b0 : List Foe) (b2 : List Txt) (b3 : List Part) (b4 : Int) (w : Want) (t4c4 : Int) (n : Nat) : Int → (List Spot) → Option Book := fun i5 b2c1a => its_f_91_0 N n (S_f_91_0 b0 b2 b3 b4 w t4c4 i5 b2c1a)
theorem fe_f_91_0 (N : Nat) : it_f_91_0 N = f_91_0 N := funext fun b0 => funext fun b2 => funext fun b3 => funext fun b4 => funext fun w => funext fun t4c4 => funext (lp_all (by kernel_rfl) fun n => by
 show _ = f_91_0r N (f_91_2 N (it_f_91_0 N b0 b2 b3 b4 w t4c4 n) b0 b2 b3 b4 w t4c4) b0 b2 b3 b4 w t4c4 (it_f_91_0 N b0 b2 b3 b4 w t4c4 n)
 rw [show f_91_2 N (it_f_91_0 N b0 b2 b3 b4 w t4c4 n) b0 b2 b3 b4 w t4c4 = it_f_91_2 N (its_f_91_0 N n) b0 b2 b3 b4 w t4c4 from (fe_f_91_2 N (its_f_91_0 N n) b0 b2 b3 b4 w t4c4).symm]
 kernel_rfl)
theorem run_f_91 (N : Nat) (b0 : List Foe) (b1 : List Spot) (b2 : List Txt) (b3 : List Part) (b4 : Int) (w : Want) : runST (ofDs [tBook]) (tabOf tabL) (tabS (phiL_f_91 N)) inl0 N fi_f_91 sg_f_91 [⟨.slice tFoe, b0⟩, ⟨.slice tSpot, b1⟩, ⟨tTxts, b2⟩, ⟨.slice tPart, b3⟩, ⟨tInt, b4⟩, ⟨tWant, w⟩] = F.f_91 N b0 b1 b2 b3 b4 w := by
 show _ = F.f_91b N (F.f_91_0 N) b0 b1 b2 b3 b4 w
 rw [← fe_f_91_0 N]
 kernel_rfl
def sm_f_91 (N : Nat) : Summ := summOf [.sp [.mv 86 tFoe none, .mv 64 tSpot (some [9]), .mv 9 (.str) none, .mv 89 tPart (some [9, 75, 9, 9]), .dd tInt], .d tWant true] true [.own tBook true [(86, none), (64, none), (9, none), (89, (some [9, 75, 9, 9]))]] [tBook] (F.f_91 N)
theorem con_f_91 (N : Nat) : Contract Try.prog 142 (sm_f_91 N) := con_of (N := N) tabOK mixed (callOK_list (l := phiL_f_91 N) (allc rfl (con_f_74 N) (allc rfl (con_f_51 N) (allc rfl (con_f_70 N) trivial)))) (inl0_ok _) ok_f_91 (by decide) fun b0 b1 b2 b3 b4 w => run_f_91 N b0 b1 b2 b3 b4 w
def an_f_30 : Nat → Option Ann := fun _ => none
noncomputable def fi_f_30 : FI := ⟨Try.f138.results.toList, bodyOf Try.f138.body, Try.f138.ntmps, an_f_30⟩
theorem ok_f_30 : FnOK Try.prog 138 fi_f_30 := ⟨⟨Try.f138, Try.func138, by kernel_rfl, rfl, rfl, by kernel_rfl⟩, by kernel_rfl⟩
def phiL_f_30 (N : Nat) : List (Nat × Summ) := [(141, sm_f_34 N), (81, sm_f_71 N), (36, sm_f_95 N), (82, sm_f_73 N), (142, sm_f_91 N)]
def sg_f_30 : Summ := sigOf [.d tBook true, .d tWant true] false [.own tBook true [(86, none), (64, (some [9])), (9, none), (89, (some [9, 75, 9, 9]))], .d tInt false]
theorem run_f_30 (N : Nat) (b : Book) (w : Want) : runST (ofDs [tBook, tInt]) (tabOf tabL) (tabS (phiL_f_30 N)) inl0 N fi_f_30 sg_f_30 [⟨tBook, b⟩, ⟨tWant, w⟩] = F.f_30 N b w := by kernel_rfl
def sm_f_30 (N : Nat) : Summ := summOf [.d tBook true, .d tWant true] false [.own tBook true [(86, none), (64, (some [9])), (9, none), (89, (some [9, 75, 9, 9]))], .d tInt false] [tBook, tInt] (F.f_30 N)
theorem con_f_30 (N : Nat) : Contract Try.prog 138 (sm_f_30 N) := con_of (N := N) tabOK mixed (callOK_list (l := phiL_f_30 N) (allc rfl (con_f_34 N) (allc rfl (con_f_71 N) (allc rfl (con_f_95 N) (allc rfl (con_f_73 N) (allc rfl (con_f_91 N) trivial)))))) (inl0_ok _) ok_f_30 (by decide) fun b w => run_f_30 N b w
def an_f_81 : Nat → Option Ann := fun _ => none
noncomputable def fi_f_81 : FI := ⟨Try.f132.results.toList, bodyOf Try.f132.body, Try.f132.ntmps, an_f_81⟩
theorem ok_f_81 : FnOK Try.prog 132 fi_f_81 := ⟨⟨Try.f132, Try.func132, by kernel_rfl, rfl, rfl, by kernel_rfl⟩, by kernel_rfl⟩
def phiL_f_81 (N : Nat) : List (Nat × Summ) := [(75, sm_f_36 N), (29, sm_f_35 N), (138, sm_f_30 N)]
def sg_f_81 : Summ := sigOf [.d tBook true, .d tDo true] true [.d tBook true]
theorem run_f_81 (N : Nat) (b : Book) (d : Do) : runST (ofDs [tBook]) (tabOf tabL) (tabS (phiL_f_81 N)) inl0 N fi_f_81 sg_f_81 [⟨tBook, b⟩, ⟨tDo, d⟩] = F.f_81 N b d := by kernel_rfl
def sm_f_81 (N : Nat) : Summ := summOf [.d tBook true, .d tDo true] true [.d tBook true] [tBook] (F.f_81 N)
theorem con_f_81 (N : Nat) : Contract Try.prog 132 (sm_f_81 N) := con_of (N := N) tabOK mixed (callOK_list (l := phiL_f_81 N) (allc rfl (con_f_36 N) (allc rfl (con_f_35 N) (allc rfl (con_f_30 N) trivial)))) (inl0_ok _) ok_f_81 (by decide) fun b d => run_f_81 N b d
def an_f_77 : Nat → Option Ann
 | 0 => some ⟨⟨[(0, kp), (2, kp), (3, kp), (4, kp)], [(500000, [kp, kp]), (2, [kp, kp, kp, kp, kp]), (3, [kp, kp, kp, kp, kp])], []⟩, [(0, ⟨[(2, kp), (3, kp)], [(500000, [kp, kp]), (2, [kp, kp, kp, kp, kp]), (3, [kp, kp, kp, kp, kp])], []⟩)], ⟨[], [], []⟩⟩
 | _ => none
noncomputable def fi_f_77 : FI := ⟨Try.f114.results.toList, bodyOf Try.f114.body, Try.f114.ntmps, an_f_77⟩
theorem ok_f_77 : FnOK Try.prog 114 fi_f_77 := ⟨⟨Try.f114, Try.func114, by kernel_rfl, rfl, rfl, by kernel_rfl⟩, by kernel_rfl⟩
def phiL_f_77 (N : Nat) : List (Nat × Summ) := [(131, sm_f_76 N), (74, sm_f_38 N), (133, sm_f_78 N), (132, sm_f_81 N)]
def sg_f_77 : Summ := sigOf [.bx (.pair (.slice tByte) tInt)] true [.d tBook true]
def S_f_77_0 (t2c4 : Int) (n4 : Int) (rpc0 : List Int) (rpc1 : Int) (b3c0 : List Foe) (b3c1 : List Spot) (b3c2 : List Txt) (b3c3 : List Part) (b3c4 : Int) : St := ⟨[(0, vb 500000), (2, vb 2), (3, vb 3), (4, vv tInt n4)], [(500000, .box [.v tByte.slice rpc0, .v tInt rpc1]), (2, .box [.emp, .emp, .emp, .emp, .v tInt t2c4]), (3, .box [.v tFoe.slice b3c0, .v tSpot.slice b3c1, .v tTxts b3c2, .v tPart.slice b3c3, .v tInt b3c4])]⟩
noncomputable def E_f_77 (N : Nat) : Env := envOf (tabOf tabL) (tabS (phiL_f_77 N)) inl0 N fi_f_77 [500000]
noncomputable def K_f_77 := (kFun (tabOf tabL) fi_f_77.res (kT (ofDs [tBook, .pair (.slice tByte) tInt]) sg_f_77 [(500000, .bx (.pair (.slice tByte) tInt))]))
noncomputable def its_f_77_0 (N : Nat) (n : Nat) : St → Option (Book × Rdr) := fun S' => iter [500000] (annAt fi_f_77 0) (code (E_f_77 N) (lpIn fi_f_77.body 0 0) 0) n S' (contOf (E_f_77 N) fi_f_77.body 0 0 K_f_77)
noncomputable def it_f_77_0 (N : Nat) (t2c4 : Int) (n : Nat) : Int → (List Int) → Int → (List Foe) → (List Spot) → (List Txt) → (List Part) → Int → Option (Book × Rdr) := fun n4 rpc0 rpc1 b3c0 b3c1 b3c2 b3c3 b3c4 => its_f_77_0 N n (S_f_77_0 t2c4 n4 rpc0 rpc1 b3c0 b3c1 b3c2 b3c3 b3c4)
theorem fe_f_77_0 (N : Nat) : it_f_77_0 N = f_77_0 N := funext fun t2c4 => funext (lp_all (by kernel_rfl) fun n => by
 show _ = f_77_0r N t2c4 (it_f_77_0 N t2c4 n)
 kernel_rfl)
theorem run_f_77 (N : Nat) (r : Rdr) : runST (ofDs [tBook, .pair (.slice tByte) tInt]) (tabOf tabL) (tabS (phiL_f_77 N)) inl0 N fi_f_77 sg_f_77 [⟨.pair (.slice tByte) tInt, r⟩] = F.f_77 N r := by
 show _ = F.f_77b N (F.f_77_0 N) r
 rw [← fe_f_77_0 N]
 kernel_rfl
def sm_f_77 (N : Nat) : Summ := summOf [.bx (.pair (.slice tByte) tInt)] true [.d tBook true] [tBook, .pair (.slice tByte) tInt] (F.f_77 N)
theorem con_f_77 (N : Nat) : Contract Try.prog 114 (sm_f_77 N) := con_of (N := N) tabOK mixed (callOK_list (l := phiL_f_77 N) (allc rfl (con_f_76 N) (allc rfl (con_f_38 N) (allc rfl (con_f_78 N) (allc rfl (con_f_81 N) trivial))))) (inl0_ok _) ok_f_77 (by decide) fun r => run_f_77 N r
def an_f_64 : Nat → Option Ann := fun _ => none
noncomputable def fi_f_64 : FI := ⟨Try.f115.results.toList, bodyOf Try.f115.body, Try.f115.ntmps, an_f_64⟩
theorem ok_f_64 : FnOK Try.prog 115 fi_f_64 := ⟨⟨Try.f115, Try.func115, by kernel_rfl, rfl, rfl, by kernel_rfl⟩, by kernel_rfl⟩
def phiL_f_64 (N : Nat) : List (Nat × Summ) := [(81, sm_f_71 N), (74, sm_f_38 N), (134, sm_f_56 N), (135, sm_f_29 N)]
def sg_f_64 : Summ := sigOf [.bx (.pair (.slice tByte) tInt), .d tBook true] true [.d tBook true]
theorem run_f_64 (N : Nat) (r : Rdr) (b : Book) : runST (ofDs [tBook, .pair (.slice tByte) tInt]) (tabOf tabL) (tabS (phiL_f_64 N)) inl0 N fi_f_64 sg_f_64 [⟨.pair (.slice tByte) tInt, r⟩, ⟨tBook, b⟩] = F.f_64 N r b := by kernel_rfl
def sm_f_64 (N : Nat) : Summ := summOf [.bx (.pair (.slice tByte) tInt), .d tBook true] true [.d tBook true] [tBook, .pair (.slice tByte) tInt] (F.f_64 N)
theorem con_f_64 (N : Nat) : Contract Try.prog 115 (sm_f_64 N) := con_of (N := N) tabOK mixed (callOK_list (l := phiL_f_64 N) (allc rfl (con_f_71 N) (allc rfl (con_f_38 N) (allc rfl (con_f_56 N) (allc rfl (con_f_29 N) trivial))))) (inl0_ok _) ok_f_64 (by decide) fun r b => run_f_64 N r b
def an_f_92 : Nat → Option Ann := fun _ => none
noncomputable def fi_f_92 : FI := ⟨Try.f72.results.toList, bodyOf Try.f72.body, Try.f72.ntmps, an_f_92⟩
theorem ok_f_92 : FnOK Try.prog 72 fi_f_92 := ⟨⟨Try.f72, Try.func72, by kernel_rfl, rfl, rfl, by kernel_rfl⟩, by kernel_rfl⟩
def phiL_f_92 (N : Nat) : List (Nat × Summ) := [(114, sm_f_77 N), (74, sm_f_38 N), (115, sm_f_64 N)]
def sg_f_92 : Summ := sigOf [.bx (.pair (.slice tByte) tInt)] true [.d tBook true]
theorem run_f_92 (N : Nat) (r : Rdr) : runST (ofDs [tBook, .pair (.slice tByte) tInt]) (tabOf tabL) (tabS (phiL_f_92 N)) inl0 N fi_f_92 sg_f_92 [⟨.pair (.slice tByte) tInt, r⟩] = F.f_92 N r := by kernel_rfl
def sm_f_92 (N : Nat) : Summ := summOf [.bx (.pair (.slice tByte) tInt)] true [.d tBook true] [tBook, .pair (.slice tByte) tInt] (F.f_92 N)
theorem con_f_92 (N : Nat) : Contract Try.prog 72 (sm_f_92 N) := con_of (N := N) tabOK mixed (callOK_list (l := phiL_f_92 N) (allc rfl (con_f_77 N) (allc rfl (con_f_38 N) (allc rfl (con_f_64 N) trivial)))) (inl0_ok _) ok_f_92 (by decide) fun r => run_f_92 N r
def an_f_22 : Nat → Option Ann := fun _ => none
noncomputable def fi_f_22 : FI := ⟨Try.f27.results.toList, bodyOf Try.f27.body, Try.f27.ntmps, an_f_22⟩
theorem ok_f_22 : FnOK Try.prog 27 fi_f_22 := ⟨⟨Try.f27, Try.func27, by kernel_rfl, rfl, rfl, by kernel_rfl⟩, by kernel_rfl⟩
def phiL_f_22 (N : Nat) : List (Nat × Summ) := [(72, sm_f_92 N), (73, sm_f_96 N), (74, sm_f_38 N), (75, sm_f_36 N), (76, sm_f_63 N)]
def sg_f_22 : Summ := sigOf [.d (.slice tByte) false] true [.d tBook true, .d tInt false, .d tInt false, .d (.bool) false]
theorem run_f_22 (N : Nat) (code : List (Int)) : runST (ofDs [tBook, tInt, tInt, .bool]) (tabOf tabL) (tabS (phiL_f_22 N)) (inlB libL [(71, fi_spec_l1Open)] (tabOf tabL) (tabS (phiL_f_22 N)) N) N fi_f_22 sg_f_22 [⟨.slice tByte, code⟩] = F.f_22 N code := by kernel_rfl
def sm_f_22 (N : Nat) : Summ := summOf [.d (.slice tByte) false] true [.d tBook true, .d tInt false, .d tInt false, .d (.bool) false] [tBook, tInt, tInt, .bool] (F.f_22 N)
theorem con_f_22 (N : Nat) : Contract Try.prog 27 (sm_f_22 N) := con_of (N := N) tabOK mixed (callOK_list (l := phiL_f_22 N) (allc rfl (con_f_92 N) (allc rfl (con_f_96 N) (allc rfl (con_f_38 N) (allc rfl (con_f_36 N) (allc rfl (con_f_63 N) trivial)))))) (inlB_ok (L := libL) (Fs := [(71, fi_spec_l1Open)]) libs_ok (And.intro ok_spec_l1Open trivial) tabOK (callOK_list (l := phiL_f_22 N) (allc rfl (con_f_92 N) (allc rfl (con_f_96 N) (allc rfl (con_f_38 N) (allc rfl (con_f_36 N) (allc rfl (con_f_63 N) trivial)))))) mixed) ok_f_22 (by decide) fun code => run_f_22 N code
def an_f_97 : Nat → Option Ann := fun _ => none
noncomputable def fi_f_97 : FI := ⟨Try.f42.results.toList, bodyOf Try.f42.body, Try.f42.ntmps, an_f_97⟩
theorem ok_f_97 : FnOK Try.prog 42 fi_f_97 := ⟨⟨Try.f42, Try.func42, by kernel_rfl, rfl, rfl, by kernel_rfl⟩, by kernel_rfl⟩
def phiL_f_97 (N : Nat) : List (Nat × Summ) := []
def sg_f_97 : Summ := sigOf [.d tInt false, .d tInt false, .d tInt false] false [.d (.bool) false]
theorem run_f_97 (N : Nat) (n : Int) (low : Int) (high : Int) : runST (ofDs [.bool]) (tabOf tabL) (tabS (phiL_f_97 N)) inl0 N fi_f_97 sg_f_97 [⟨tInt, n⟩, ⟨tInt, low⟩, ⟨tInt, high⟩] = F.f_97 N n low high := by kernel_rfl
def sm_f_97 (N : Nat) : Summ := summOf [.d tInt false, .d tInt false, .d tInt false] false [.d (.bool) false] [.bool] (F.f_97 N)
theorem con_f_97 (N : Nat) : Contract Try.prog 42 (sm_f_97 N) := con_of (N := N) tabOK mixed (callOK_list (l := phiL_f_97 N) trivial) (inl0_ok _) ok_f_97 (by decide) fun n low high => run_f_97 N n low high
def an_f_94 : Nat → Option Ann
 | 0 => some ⟨⟨[(0, kp), (3, kp)], [], []⟩, [(0, ⟨[], [], []⟩)], ⟨[(2, kp)], [], []⟩⟩
 | _ => none
noncomputable def fi_f_94 : FI := ⟨Try.f44.results.toList, bodyOf Try.f44.body, Try.f44.ntmps, an_f_94⟩
theorem ok_f_94 : FnOK Try.prog 44 fi_f_94 := ⟨⟨Try.f44, Try.func44, by kernel_rfl, rfl, rfl, by kernel_rfl⟩, by kernel_rfl⟩
def phiL_f_94 (N : Nat) : List (Nat × Summ) := [(42, sm_f_97 N)]
def sg_f_94 : Summ := sigOf [.d (.str) false] false [.d (.bool) false]
def S_f_94_0 (s : Txt) (i3 : Int) : St := ⟨[(0, vv Ty.str s), (3, vv tInt i3)], []⟩
noncomputable def E_f_94 (N : Nat) : Env := envOf (tabOf tabL) (tabS (phiL_f_94 N)) inl0 N fi_f_94 []
noncomputable def K_f_94 := (kFun (tabOf tabL) fi_f_94.res (kT (ofDs [.bool]) sg_f_94 []))
noncomputable def its_f_94_0 (N : Nat) (n : Nat) : St → Option Bool := fun S' => iter [] (annAt fi_f_94 0) (code (E_f_94 N) (lpIn fi_f_94.body 0 0) 0) n S' (contOf (E_f_94 N) fi_f_94.body 0 0 K_f_94)
noncomputable def it_f_94_0 (N : Nat) (s : Txt) (n : Nat) : Int → Option Bool := fun i3 => its_f_94_0 N n (S_f_94_0 s i3)
theorem fe_f_94_0 (N : Nat) : it_f_94_0 N = f_94_0 N := funext fun s => funext (lp_all (by kernel_rfl) fun n => by
 show _ = f_94_0r N s (it_f_94_0 N s n)
 kernel_rfl)
theorem run_f_94 (N : Nat) (s : Txt) : runST (ofDs [.bool]) (tabOf tabL) (tabS (phiL_f_94 N)) inl0 N fi_f_94 sg_f_94 [⟨.str, s⟩] = F.f_94 N s := by
 show _ = F.f_94b N (F.f_94_0 N) s
 rw [← fe_f_94_0 N]
 kernel_rfl
def sm_f_94 (N : Nat) : Summ := summOf [.d (.str) false] false [.d (.bool) false] [.bool] (F.f_94 N)
theorem con_f_94 (N : Nat) : Contract Try.prog 44 (sm_f_94 N) := con_of (N := N) tabOK mixed (callOK_list (l := phiL_f_94 N) (allc rfl (con_f_97 N) trivial)) (inl0_ok _) ok_f_94 (by decide) fun s => run_f_94 N s
def an_f_83 : Nat → Option Ann
 | 0 => some ⟨⟨[(0, kp), (11, kp), (12, kp), (13, kp)], [], []⟩, [(0, ⟨[], [], []⟩)], ⟨[(4, kp)], [], []⟩⟩
 | _ => none
noncomputable def fi_f_83 : FI := ⟨Try.f43.results.toList, bodyOf Try.f43.body, Try.f43.ntmps, an_f_83⟩
theorem ok_f_83 : FnOK Try.prog 43 fi_f_83 := ⟨⟨Try.f43, Try.func43, by kernel_rfl, rfl, rfl, by kernel_rfl⟩, by kernel_rfl⟩
def phiL_f_83 (N : Nat) : List (Nat × Summ) := [(44, sm_f_94 N)]
def sg_f_83 : Summ := sigOf [.d tTxts false, .d tInt false] false [.d (.bool) false]
def S_f_83_0 (l : List Txt) (t12 : Int) (t13 : Int) : St := ⟨[(0, vv tTxts l), (11, vv tTxts l), (12, vv tInt t12), (13, vv tInt t13)], []⟩
noncomputable def E_f_83 (N : Nat) : Env := envOf (tabOf tabL) (tabS (phiL_f_83 N)) inl0 N fi_f_83 []
noncomputable def K_f_83 := (kFun (tabOf tabL) fi_f_83.res (kT (ofDs [.bool]) sg_f_83 []))
noncomputable def its_f_83_0 (N : Nat) (n : Nat) : St → Option Bool := fun S' => iter [] (annAt fi_f_83 0) (code (E_f_83 N) (lpIn fi_f_83.body 0 0) 0) n S' (contOf (E_f_83 N) fi_f_83.body 0 0 K_f_83)
noncomputable def it_f_83_0 (N : Nat) (l : List Txt) (t12 : Int) (n : Nat) : Int → Option Bool := fun t13 => its_f_83_0 N n (S_f_83_0 l t12 t13)
theorem fe_f_83_0 (N : Nat) : it_f_83_0 N = f_83_0 N := funext fun l => funext fun t12 => funext (lp_all (by kernel_rfl) fun n => by
 show _ = f_83_0r N l t12 (it_f_83_0 N l t12 n)
 kernel_rfl)
theorem run_f_83 (N : Nat) (l : List Txt) (most : Int) : runST (ofDs [.bool]) (tabOf tabL) (tabS (phiL_f_83 N)) inl0 N fi_f_83 sg_f_83 [⟨tTxts, l⟩, ⟨tInt, most⟩] = F.f_83 N l most := by
 show _ = F.f_83b N (F.f_83_0 N) l most
 rw [← fe_f_83_0 N]
 kernel_rfl
def sm_f_83 (N : Nat) : Summ := summOf [.d tTxts false, .d tInt false] false [.d (.bool) false] [.bool] (F.f_83 N)
theorem con_f_83 (N : Nat) : Contract Try.prog 43 (sm_f_83 N) := con_of (N := N) tabOK mixed (callOK_list (l := phiL_f_83 N) (allc rfl (con_f_94 N) trivial)) (inl0_ok _) ok_f_83 (by decide) fun l most => run_f_83 N l most
def an_f_19 : Nat → Option Ann := fun _ => none
noncomputable def fi_f_19 : FI := ⟨Try.f57.results.toList, bodyOf Try.f57.body, Try.f57.ntmps, an_f_19⟩
theorem ok_f_19 : FnOK Try.prog 57 fi_f_19 := ⟨⟨Try.f57, Try.func57, by kernel_rfl, rfl, rfl, by kernel_rfl⟩, by kernel_rfl⟩
def phiL_f_19 (N : Nat) : List (Nat × Summ) := []
def sg_f_19 : Summ := sigOf [.d tFoe true, .d tFoe true] false [.d (.bool) false]
theorem run_f_19 (N : Nat) (f : Foe) (g : Foe) : runST (ofDs [.bool]) (tabOf tabL) (tabS (phiL_f_19 N)) inl0 N fi_f_19 sg_f_19 [⟨tFoe, f⟩, ⟨tFoe, g⟩] = F.f_19 N f g := by kernel_rfl
def sm_f_19 (N : Nat) : Summ := summOf [.d tFoe true, .d tFoe true] false [.d (.bool) false] [.bool] (F.f_19 N)
theorem con_f_19 (N : Nat) : Contract Try.prog 57 (sm_f_19 N) := con_of (N := N) tabOK mixed (callOK_list (l := phiL_f_19 N) trivial) (inl0_ok _) ok_f_19 (by decide) fun f g => run_f_19 N f g
def an_f_21 : Nat → Option Ann
 | 0 => some ⟨⟨[(0, kp), (1, kp), (7, kp), (8, kp)], [], []⟩, [(0, ⟨[], [], []⟩)], ⟨[(4, kp)], [], []⟩⟩
 | _ => none
noncomputable def fi_f_21 : FI := ⟨Try.f111.results.toList, bodyOf Try.f111.body, Try.f111.ntmps, an_f_21⟩
theorem ok_f_21 : FnOK Try.prog 111 fi_f_21 := ⟨⟨Try.f111, Try.func111, by kernel_rfl, rfl, rfl, by kernel_rfl⟩, by kernel_rfl⟩
def phiL_f_21 (N : Nat) : List (Nat × Summ) := []
def sg_f_21 : Summ := sigOf [.d tTxts false, .d (.str) false] false [.d tInt false]
def S_f_21_0 (s : List Txt) (v : Txt) (t7 : Int) (t8 : Int) : St := ⟨[(0, vv tTxts s), (1, vv Ty.str v), (7, vv tInt t7), (8, vv tInt t8)], []⟩
noncomputable def E_f_21 (N : Nat) : Env := envOf (tabOf tabL) (tabS (phiL_f_21 N)) inl0 N fi_f_21 []
noncomputable def K_f_21 := (kFun (tabOf tabL) fi_f_21.res (kT (ofDs [tInt]) sg_f_21 []))
noncomputable def its_f_21_0 (N : Nat) (n : Nat) : St → Option Int := fun S' => iter [] (annAt fi_f_21 0) (code (E_f_21 N) (lpIn fi_f_21.body 0 0) 0) n S' (contOf (E_f_21 N) fi_f_21.body 0 0 K_f_21)
noncomputable def it_f_21_0 (N : Nat) (s : List Txt) (v : Txt) (t7 : Int) (n : Nat) : Int → Option Int := fun t8 => its_f_21_0 N n (S_f_21_0 s v t7 t8)
theorem fe_f_21_0 (N : Nat) : it_f_21_0 N = f_21_0 N := funext fun s => funext fun v => funext fun t7 => funext (lp_all (by kernel_rfl) fun n => by
 show _ = f_21_0r N s v t7 (it_f_21_0 N s v t7 n)
 kernel_rfl)
theorem run_f_21 (N : Nat) (s : List Txt) (v : Txt) : runST (ofDs [tInt]) (tabOf tabL) (tabS (phiL_f_21 N)) inl0 N fi_f_21 sg_f_21 [⟨tTxts, s⟩, ⟨.str, v⟩] = F.f_21 N s v := by
 show _ = F.f_21b N (F.f_21_0 N) s v
 rw [← fe_f_21_0 N]
 kernel_rfl
def sm_f_21 (N : Nat) : Summ := summOf [.d tTxts false, .d (.str) false] false [.d tInt false] [tInt] (F.f_21 N)
theorem con_f_21 (N : Nat) : Contract Try.prog 111 (sm_f_21 N) := con_of (N := N) tabOK mixed (callOK_list (l := phiL_f_21 N) trivial) (inl0_ok _) ok_f_21 (by decide) fun s v => run_f_21 N s v
def an_f_11 : Nat → Option Ann := fun _ => none
noncomputable def fi_f_11 : FI := ⟨Try.f66.results.toList, bodyOf Try.f66.body, Try.f66.ntmps, an_f_11⟩
theorem ok_f_11 : FnOK Try.prog 66 fi_f_11 := ⟨⟨Try.f66, Try.func66, by kernel_rfl, rfl, rfl, by kernel_rfl⟩, by kernel_rfl⟩
def phiL_f_11 (N : Nat) : List (Nat × Summ) := [(111, sm_f_21 N)]
def sg_f_11 : Summ := sigOf [.d tTxts false, .d (.str) false] false [.d (.bool) false]
theorem run_f_11 (N : Nat) (s : List Txt) (v : Txt) : runST (ofDs [.bool]) (tabOf tabL) (tabS (phiL_f_11 N)) inl0 N fi_f_11 sg_f_11 [⟨tTxts, s⟩, ⟨.str, v⟩] = F.f_11 N s v := by kernel_rfl
def sm_f_11 (N : Nat) : Summ := summOf [.d tTxts false, .d (.str) false] false [.d (.bool) false] [.bool] (F.f_11 N)
theorem con_f_11 (N : Nat) : Contract Try.prog 66 (sm_f_11 N) := con_of (N := N) tabOK mixed (callOK_list (l := phiL_f_11 N) (allc rfl (con_f_21 N) trivial)) (inl0_ok _) ok_f_11 (by decide) fun s v => run_f_11 N s v
def an_f_17 : Nat → Option Ann
 | 0 => some ⟨⟨[(1, kp), (2, kp), (10, kp), (11, kp), (12, kp)], [], []⟩, [(0, ⟨[], [], []⟩)], ⟨[(6, kp)], [], []⟩⟩
 | _ => none
noncomputable def fi_f_17 : FI := ⟨Try.f58.results.toList, bodyOf Try.f58.body, Try.f58.ntmps, an_f_17⟩
theorem ok_f_17 : FnOK Try.prog 58 fi_f_17 := ⟨⟨Try.f58, Try.func58, by kernel_rfl, rfl, rfl, by kernel_rfl⟩, by kernel_rfl⟩
def phiL_f_17 (N : Nat) : List (Nat × Summ) := [(66, sm_f_11 N)]
def sg_f_17 : Summ := sigOf [.d tBook true, .d tTxts false, .d tTxts false] false [.d (.bool) false]
def S_f_17_0 (b : Book) (x : List Txt) (y : List Txt) (t11 : Int) (t12 : Int) : St := ⟨[(1, vv tTxts x), (2, vv tTxts y), (10, vv tFoe.slice b.1), (11, vv tInt t11), (12, vv tInt t12)], []⟩
noncomputable def E_f_17 (N : Nat) : Env := envOf (tabOf tabL) (tabS (phiL_f_17 N)) inl0 N fi_f_17 []
noncomputable def K_f_17 := (kFun (tabOf tabL) fi_f_17.res (kT (ofDs [.bool]) sg_f_17 []))
noncomputable def its_f_17_0 (N : Nat) (n : Nat) : St → Option Bool := fun S' => iter [] (annAt fi_f_17 0) (code (E_f_17 N) (lpIn fi_f_17.body 0 0) 0) n S' (contOf (E_f_17 N) fi_f_17.body 0 0 K_f_17)
noncomputable def it_f_17_0 (N : Nat) (b : Book) (x : List Txt) (y : List Txt) (t11 : Int) (n : Nat) : Int → Option Bool := fun t12 => its_f_17_0 N n (S_f_17_0 b x y t11 t12)
theorem fe_f_17_0 (N : Nat) : it_f_17_0 N = f_17_0 N := funext fun b => funext fun x => funext fun y => funext fun t11 => funext (lp_all (by kernel_rfl) fun n => by
 show _ = f_17_0r N b x y t11 (it_f_17_0 N b x y t11 n)
 kernel_rfl)
theorem run_f_17 (N : Nat) (b : Book) (x : List Txt) (y : List Txt) : runST (ofDs [.bool]) (tabOf tabL) (tabS (phiL_f_17 N)) inl0 N fi_f_17 sg_f_17 [⟨tBook, b⟩, ⟨tTxts, x⟩, ⟨tTxts, y⟩] = F.f_17 N b x y := by
 show _ = F.f_17b N (F.f_17_0 N) b x y
 rw [← fe_f_17_0 N]
 kernel_rfl
def sm_f_17 (N : Nat) : Summ := summOf [.d tBook true, .d tTxts false, .d tTxts false] false [.d (.bool) false] [.bool] (F.f_17 N)
theorem con_f_17 (N : Nat) : Contract Try.prog 58 (sm_f_17 N) := con_of (N := N) tabOK mixed (callOK_list (l := phiL_f_17 N) (allc rfl (con_f_11 N) trivial)) (inl0_ok _) ok_f_17 (by decide) fun b x y => run_f_17 N b x y
def an_f_32 : Nat → Option Ann := fun _ => none
noncomputable def fi_f_32 : FI := ⟨Try.f91.results.toList, bodyOf Try.f91.body, Try.f91.ntmps, an_f_32⟩
theorem ok_f_32 : FnOK Try.prog 91 fi_f_32 := ⟨⟨Try.f91, Try.func91, by kernel_rfl, rfl, rfl, by kernel_rfl⟩, by kernel_rfl⟩
def phiL_f_32 (N : Nat) : List (Nat × Summ) := [(66, sm_f_11 N)]
def sg_f_32 : Summ := sigOf [.d (.str) false, .bx tTxts] true [.d (.bool) false]
theorem run_f_32 (N : Nat) (s : Txt) (p1 : List Txt) : runST (ofDs [.bool, tTxts]) (tabOf tabL) (tabS (phiL_f_32 N)) inl0 N fi_f_32 sg_f_32 [⟨.str, s⟩, ⟨tTxts, p1⟩] = F.f_32 N s p1 := by kernel_rfl
def sm_f_32 (N : Nat) : Summ := summOf [.d (.str) false, .bx tTxts] true [.d (.bool) false] [.bool, tTxts] (F.f_32 N)
theorem con_f_32 (N : Nat) : Contract Try.prog 91 (sm_f_32 N) := con_of (N := N) tabOK mixed (callOK_list (l := phiL_f_32 N) (allc rfl (con_f_11 N) trivial)) (inl0_ok _) ok_f_32 (by decide) fun s p1 => run_f_32 N s p1
def an_f_8 : Nat → Option Ann
 | 0 => some ⟨⟨[(0, kp), (1, kp), (7, kp), (8, kp)], [(500001, [kp])], []⟩, [(0, ⟨[], [(500001, [kp])], []⟩)], ⟨[(4, kp)], [(500001, [kp])], []⟩⟩
 | _ => none
noncomputable def fi_f_8 : FI := ⟨Try.f125.results.toList, bodyOf Try.f125.body, Try.f125.ntmps, an_f_8⟩
theorem ok_f_8 : FnOK Try.prog 125 fi_f_8 := ⟨⟨Try.f125, Try.func125, by kernel_rfl, rfl, rfl, by kernel_rfl⟩, by kernel_rfl⟩
def phiL_f_8 (N : Nat) : List (Nat × Summ) := [(91, sm_f_32 N)]
def sg_f_8 : Summ := sigOf [.d tTxts false, .cl 91 [tTxts]] true [.d tInt false]
def S_f_8_0 (s : List Txt) (t7 : Int) (t8 : Int) (fpc0 : List Txt) : St := ⟨[(0, vv tTxts s), (1, AV.w (V1.one (C.fn 91 [500001]))), (7, vv tInt t7), (8, vv tInt t8)], [(500001, .box [.v tTxts fpc0])]⟩
noncomputable def E_f_8 (N : Nat) : Env := envOf (tabOf tabL) (tabS (phiL_f_8 N)) inl0 N fi_f_8 [500001]
noncomputable def K_f_8 := (kFun (tabOf tabL) fi_f_8.res (kT (ofDs [tInt, tTxts]) sg_f_8 [(500001, .bx tTxts)]))
noncomputable def its_f_8_0 (N : Nat) (n : Nat) : St → Option (Int × List Txt) := fun S' => iter [500001] (annAt fi_f_8 0) (code (E_f_8 N) (lpIn fi_f_8.body 0 0) 0) n S' (contOf (E_f_8 N) fi_f_8.body 0 0 K_f_8)
noncomputable def it_f_8_0 (N : Nat) (s : List Txt) (t7 : Int) (n : Nat) : Int → (List Txt) → Option (Int × List Txt) := fun t8 fpc0 => its_f_8_0 N n (S_f_8_0 s t7 t8 fpc0)
theorem fe_f_8_0 (N : Nat) : it_f_8_0 N = f_8_0 N := funext fun s => funext fun t7 => funext (lp_all (by kernel_rfl) fun n => by
 show _ = f_8_0r N s t7 (it_f_8_0 N s t7 n)
 kernel_rfl)
theorem run_f_8 (N : Nat) (s : List Txt) (p1 : List Txt) : runST (ofDs [tInt, tTxts]) (tabOf tabL) (tabS (phiL_f_8 N)) inl0 N fi_f_8 sg_f_8 [⟨tTxts, s⟩, ⟨tTxts, p1⟩] = F.f_8 N s p1 := by
 show _ = F.f_8b N (F.f_8_0 N) s p1
 rw [← fe_f_8_0 N]
 kernel_rfl
def sm_f_8 (N : Nat) : Summ := summOf [.d tTxts false, .cl 91 [tTxts]] true [.d tInt false] [tInt, tTxts] (F.f_8 N)
theorem con_f_8 (N : Nat) : Contract Try.prog 125 (sm_f_8 N) := con_of (N := N) tabOK mixed (callOK_list (l := phiL_f_8 N) (allc rfl (con_f_32 N) trivial)) (inl0_ok _) ok_f_8 (by decide) fun s p1 => run_f_8 N s p1
def an_f_5 : Nat → Option Ann := fun _ => none
noncomputable def fi_f_5 : FI := ⟨Try.f90.results.toList, bodyOf Try.f90.body, Try.f90.ntmps, an_f_5⟩
theorem ok_f_5 : FnOK Try.prog 90 fi_f_5 := ⟨⟨Try.f90, Try.func90, by kernel_rfl, rfl, rfl, by kernel_rfl⟩, by kernel_rfl⟩
def phiL_f_5 (N : Nat) : List (Nat × Summ) := [(9200125, sm_f_8 N)]
def sg_f_5 : Summ := sigOf [.d tTxts false, .cl 91 [tTxts]] true [.d (.bool) false]
theorem run_f_5 (N : Nat) (s : List Txt) (p1 : List Txt) : runST (ofDs [.bool, tTxts]) (tabOf tabL) (tabS (phiL_f_5 N)) inl0 N fi_f_5 sg_f_5 [⟨tTxts, s⟩, ⟨tTxts, p1⟩] = F.f_5 N s p1 := by kernel_rfl
def sm_f_5 (N : Nat) : Summ := summOf [.d tTxts false, .cl 91 [tTxts]] true [.d (.bool) false] [.bool, tTxts] (F.f_5 N)
theorem con_f_5 (N : Nat) : Contract Try.prog 90 (sm_f_5 N) := con_of (N := N) tabOK mixed (callOK_list (l := phiL_f_5 N) (allc rfl (con_f_8 N) trivial)) (inl0_ok _) ok_f_5 (by decide) fun s p1 => run_f_5 N s p1
def an_f_65 : Nat → Option Ann := fun _ => none
noncomputable def fi_f_65 : FI := ⟨Try.f45.results.toList, bodyOf Try.f45.body, Try.f45.ntmps, an_f_65⟩
theorem ok_f_65 : FnOK Try.prog 45 fi_f_65 := ⟨⟨Try.f45, Try.func45, by kernel_rfl, rfl, rfl, by kernel_rfl⟩, by kernel_rfl⟩
def phiL_f_65 (N : Nat) : List (Nat × Summ) := [(9200090, sm_f_5 N)]
def sg_f_65 : Summ := sigOf [.d tTxts false, .d tTxts false] false [.d (.bool) false]
theorem run_f_65 (N : Nat) (a : List Txt) (b : List Txt) : runST (ofDs [.bool]) (tabOf tabL) (tabS (phiL_f_65 N)) inl0 N fi_f_65 sg_f_65 [⟨tTxts, a⟩, ⟨tTxts, b⟩] = F.f_65 N a b := by kernel_rfl
def sm_f_65 (N : Nat) : Summ := summOf [.d tTxts false, .d tTxts false] false [.d (.bool) false] [.bool] (F.f_65 N)
theorem con_f_65 (N : Nat) : Contract Try.prog 45 (sm_f_65 N) := con_of (N := N) tabOK mixed (callOK_list (l := phiL_f_65 N) (allc rfl (con_f_5 N) trivial)) (inl0_ok _) ok_f_65 (by decide) fun a b => run_f_65 N a b
def an_f_25 : Nat → Option Ann
 | 0 => some ⟨⟨[(1, kp), (3, kp), (40, kp), (41, kp), (42, kp)], [(1, [kp, kp, kp, kp, kp, kp])], []⟩, [(0, ⟨[(1, kp), (3, kp)], [(1, [kp, kp, kp, kp, kp, kp])], []⟩)], ⟨[(2, kp)], [], []⟩⟩
 | _ => none
noncomputable def fi_f_25 : FI := ⟨Try.f12.results.toList, bodyOf Try.f12.body, Try.f12.ntmps, an_f_25⟩
theorem ok_f_25 : FnOK Try.prog 12 fi_f_25 := ⟨⟨Try.f12, Try.func12, by kernel_rfl, rfl, rfl, by kernel_rfl⟩, by kernel_rfl⟩
def phiL_f_25 (N : Nat) : List (Nat × Summ) := [(42, sm_f_97 N), (43, sm_f_83 N), (44, sm_f_94 N), (45, sm_f_65 N)]
def sg_f_25 : Summ := sigOf [.d tWant true] false [.d (.bool) false]
def S_f_25_0 (w : Want) (move3 : Bool) (t41 : Int) (t42 : Int) : St := ⟨[(1, vb 1), (3, vv Ty.bool move3), (40, vv tUse.slice w.2.2.2.1), (41, vv tInt t41), (42, vv tInt t42)], [(1, .box [.v tInt w.1, .v tInt w.2.1, .v tTxts w.2.2.1, .v tUse.slice w.2.2.2.1, .v tTxts w.2.2.2.2.1, .v tTxts w.2.2.2.2.2])]⟩
noncomputable def E_f_25 (N : Nat) : Env := envOf (tabOf tabL) (tabS (phiL_f_25 N)) inl0 N fi_f_25 []
noncomputable def K_f_25 := (kFun (tabOf tabL) fi_f_25.res (kT (ofDs [.bool]) sg_f_25 []))
noncomputable def its_f_25_0 (N : Nat) (n : Nat) : St → Option Bool := fun S' => iter [] (annAt fi_f_25 0) (code (E_f_25 N) (lpIn fi_f_25.body 0 0) 0) n S' (contOf (E_f_25 N) fi_f_25.body 0 0 K_f_25)
noncomputable def it_f_25_0 (N : Nat) (w : Want) (move3 : Bool) (t41 : Int) (n : Nat) : Int → Option Bool := fun t42 => its_f_25_0 N n (S_f_25_0 w move3 t41 t42)
theorem fe_f_25_0 (N : Nat) : it_f_25_0 N = f_25_0 N := funext fun w => funext fun move3 => funext fun t41 => funext (lp_all (by kernel_rfl) fun n => by
 show _ = f_25_0r N w move3 t41 (it_f_25_0 N w move3 t41 n)
 kernel_rfl)
theorem run_f_25 (N : Nat) (w : Want) : runST (ofDs [.bool]) (tabOf tabL) (tabS (phiL_f_25 N)) inl0 N fi_f_25 sg_f_25 [⟨tWant, w⟩] = F.f_25 N w := by
 show _ = F.f_25b N (F.f_25_0 N) w
 rw [← fe_f_25_0 N]
 kernel_rfl
def sm_f_25 (N : Nat) : Summ := summOf [.d tWant true] false [.d (.bool) false] [.bool] (F.f_25 N)
theorem con_f_25 (N : Nat) : Contract Try.prog 12 (sm_f_25 N) := con_of (N := N) tabOK mixed (callOK_list (l := phiL_f_25 N) (allc rfl (con_f_97 N) (allc rfl (con_f_83 N) (allc rfl (con_f_94 N) (allc rfl (con_f_65 N) trivial))))) (inl0_ok _) ok_f_25 (by decide) fun w => run_f_25 N w
def an_f_15 : Nat → Option Ann := fun _ => none
noncomputable def fi_f_15 : FI := ⟨Try.f122.results.toList, bodyOf Try.f122.body, Try.f122.ntmps, an_f_15⟩
theorem ok_f_15 : FnOK Try.prog 122 fi_f_15 := ⟨⟨Try.f122, Try.func122, by kernel_rfl, rfl, rfl, by kernel_rfl⟩, by kernel_rfl⟩
def phiL_f_15 (N : Nat) : List (Nat × Summ) := []
def sg_f_15 : Summ := sigOf [.d tSpot true, .bx (.str)] true [.d (.bool) false]
theorem run_f_15 (N : Nat) (s : Spot) (p1 : Txt) : runST (ofDs [.bool, .str]) (tabOf tabL) (tabS (phiL_f_15 N)) inl0 N fi_f_15 sg_f_15 [⟨tSpot, s⟩, ⟨.str, p1⟩] = F.f_15 N s p1 := by kernel_rfl
def sm_f_15 (N : Nat) : Summ := summOf [.d tSpot true, .bx (.str)] true [.d (.bool) false] [.bool, .str] (F.f_15 N)
theorem con_f_15 (N : Nat) : Contract Try.prog 122 (sm_f_15 N) := con_of (N := N) tabOK mixed (callOK_list (l := phiL_f_15 N) trivial) (inl0_ok _) ok_f_15 (by decide) fun s p1 => run_f_15 N s p1
def an_f_1 : Nat → Option Ann
 | 0 => some ⟨⟨[(0, kp), (1, kp), (7, kp), (8, kp)], [(500001, [kp])], []⟩, [(0, ⟨[], [(500001, [kp])], []⟩)], ⟨[(4, kp)], [(500001, [kp])], []⟩⟩
 | _ => none
noncomputable def fi_f_1 : FI := ⟨Try.f121.results.toList, bodyOf Try.f121.body, Try.f121.ntmps, an_f_1⟩
theorem ok_f_1 : FnOK Try.prog 121 fi_f_1 := ⟨⟨Try.f121, Try.func121, by kernel_rfl, rfl, rfl, by kernel_rfl⟩, by kernel_rfl⟩
def phiL_f_1 (N : Nat) : List (Nat × Summ) := [(122, sm_f_15 N)]
def sg_f_1 : Summ := sigOf [.d (.slice tSpot) false, .cl 122 [.str]] true [.d tInt false]
def S_f_1_0 (s : List Spot) (t7 : Int) (t8 : Int) (fpc0 : Txt) : St := ⟨[(0, vv tSpot.slice s), (1, AV.w (V1.one (C.fn 122 [500001]))), (7, vv tInt t7), (8, vv tInt t8)], [(500001, .box [.v Ty.str fpc0])]⟩
noncomputable def E_f_1 (N : Nat) : Env := envOf (tabOf tabL) (tabS (phiL_f_1 N)) inl0 N fi_f_1 [500001]
noncomputable def K_f_1 := (kFun (tabOf tabL) fi_f_1.res (kT (ofDs [tInt, .str]) sg_f_1 [(500001, .bx (.str))]))
noncomputable def its_f_1_0 (N : Nat) (n : Nat) : St → Option (Int × Txt) := fun S' => iter [500001] (annAt fi_f_1 0) (code (E_f_1 N) (lpIn fi_f_1.body 0 0) 0) n S' (contOf (E_f_1 N) fi_f_1.body 0 0 K_f_1)
noncomputable def it_f_1_0 (N : Nat) (s : List Spot) (t7 : Int) (n : Nat) : Int → Txt → Option (Int × Txt) := fun t8 fpc0 => its_f_1_0 N n (S_f_1_0 s t7 t8 fpc0)
theorem fe_f_1_0 (N : Nat) : it_f_1_0 N = f_1_0 N := funext fun s => funext fun t7 => funext (lp_all (by kernel_rfl) fun n => by
 show _ = f_1_0r N s t7 (it_f_1_0 N s t7 n)
 kernel_rfl)
theorem run_f_1 (N : Nat) (s : List Spot) (p1 : Txt) : runST (ofDs [tInt, .str]) (tabOf tabL) (tabS (phiL_f_1 N)) inl0 N fi_f_1 sg_f_1 [⟨.slice tSpot, s⟩, ⟨.str, p1⟩] = F.f_1 N s p1 := by
 show _ = F.f_1b N (F.f_1_0 N) s p1
 rw [← fe_f_1_0 N]
 kernel_rfl
def sm_f_1 (N : Nat) : Summ := summOf [.d (.slice tSpot) false, .cl 122 [.str]] true [.d tInt false] [tInt, .str] (F.f_1 N)
theorem con_f_1 (N : Nat) : Contract Try.prog 121 (sm_f_1 N) := con_of (N := N) tabOK mixed (callOK_list (l := phiL_f_1 N) (allc rfl (con_f_15 N) trivial)) (inl0_ok _) ok_f_1 (by decide) fun s p1 => run_f_1 N s p1
def an_f_23 : Nat → Option Ann := fun _ => none
noncomputable def fi_f_23 : FI := ⟨Try.f80.results.toList, bodyOf Try.f80.body, Try.f80.ntmps, an_f_23⟩
theorem ok_f_23 : FnOK Try.prog 80 fi_f_23 := ⟨⟨Try.f80, Try.func80, by kernel_rfl, rfl, rfl, by kernel_rfl⟩, by kernel_rfl⟩
def phiL_f_23 (N : Nat) : List (Nat × Summ) := [(12300121, sm_f_1 N)]
def sg_f_23 : Summ := sigOf [.d tBook true, .d (.str) false] false [.d tInt false]
theorem run_f_23 (N : Nat) (b : Book) (n : Txt) : runST (ofDs [tInt]) (tabOf tabL) (tabS (phiL_f_23 N)) inl0 N fi_f_23 sg_f_23 [⟨tBook, b⟩, ⟨.str, n⟩] = F.f_23 N b n := by kernel_rfl
def sm_f_23 (N : Nat) : Summ := summOf [.d tBook true, .d (.str) false] false [.d tInt false] [tInt] (F.f_23 N)
theorem con_f_23 (N : Nat) : Contract Try.prog 80 (sm_f_23 N) := con_of (N := N) tabOK mixed (callOK_list (l := phiL_f_23 N) (allc rfl (con_f_1 N) trivial)) (inl0_ok _) ok_f_23 (by decide) fun b n => run_f_23 N b n
def an_f_33 : Nat → Option Ann := fun _ => none
noncomputable def fi_f_33 : FI := ⟨Try.f129.results.toList, bodyOf Try.f129.body, Try.f129.ntmps, an_f_33⟩
theorem ok_f_33 : FnOK Try.prog 129 fi_f_33 := ⟨⟨Try.f129, Try.func129, by kernel_rfl, rfl, rfl, by kernel_rfl⟩, by kernel_rfl⟩
def phiL_f_33 (N : Nat) : List (Nat × Summ) := [(66, sm_f_11 N)]
def sg_f_33 : Summ := sigOf [.d (.str) false, .bx tTxts] true [.d (.bool) false]
theorem run_f_33 (N : Nat) (s : Txt) (p1 : List Txt) : runST (ofDs [.bool, tTxts]) (tabOf tabL) (tabS (phiL_f_33 N)) inl0 N fi_f_33 sg_f_33 [⟨.str, s⟩, ⟨tTxts, p1⟩] = F.f_33 N s p1 := by kernel_rfl
def sm_f_33 (N : Nat) : Summ := summOf [.d (.str) false, .bx tTxts] true [.d (.bool) false] [.bool, tTxts] (F.f_33 N)
theorem con_f_33 (N : Nat) : Contract Try.prog 129 (sm_f_33 N) := con_of (N := N) tabOK mixed (callOK_list (l := phiL_f_33 N) (allc rfl (con_f_11 N) trivial)) (inl0_ok _) ok_f_33 (by decide) fun s p1 => run_f_33 N s p1
def an_f_9 : Nat → Option Ann
 | 0 => some ⟨⟨[(0, kp), (1, kp), (7, kp), (8, kp)], [(500001, [kp])], []⟩, [(0, ⟨[], [(500001, [kp])], []⟩)], ⟨[(4, kp)], [(500001, [kp])], []⟩⟩
 | _ => none
noncomputable def fi_f_9 : FI := ⟨Try.f125.results.toList, bodyOf Try.f125.body, Try.f125.ntmps, an_f_9⟩
theorem ok_f_9 : FnOK Try.prog 125 fi_f_9 := ⟨⟨Try.f125, Try.func125, by kernel_rfl, rfl, rfl, by kernel_rfl⟩, by kernel_rfl⟩
def phiL_f_9 (N : Nat) : List (Nat × Summ) := [(129, sm_f_33 N)]
def sg_f_9 : Summ := sigOf [.d tTxts false, .cl 129 [tTxts]] true [.d tInt false]
def S_f_9_0 (s : List Txt) (t7 : Int) (t8 : Int) (fpc0 : List Txt) : St := ⟨[(0, vv tTxts s), (1, AV.w (V1.one (C.fn 129 [500001]))), (7, vv tInt t7), (8, vv tInt t8)], [(500001, .box [.v tTxts fpc0])]⟩
noncomputable def E_f_9 (N : Nat) : Env := envOf (tabOf tabL) (tabS (phiL_f_9 N)) inl0 N fi_f_9 [500001]
noncomputable def K_f_9 := (kFun (tabOf tabL) fi_f_9.res (kT (ofDs [tInt, tTxts]) sg_f_9 [(500001, .bx tTxts)]))
noncomputable def its_f_9_0 (N : Nat) (n : Nat) : St → Option (Int × List Txt) := fun S' => iter [500001] (annAt fi_f_9 0) (code (E_f_9 N) (lpIn fi_f_9.body 0 0) 0) n S' (contOf (E_f_9 N) fi_f_9.body 0 0 K_f_9)
noncomputable def it_f_9_0 (N : Nat) (s : List Txt) (t7 : Int) (n : Nat) : Int → (List Txt) → Option (Int × List Txt) := fun t8 fpc0 => its_f_9_0 N n (S_f_9_0 s t7 t8 fpc0)
theorem fe_f_9_0 (N : Nat) : it_f_9_0 N = f_9_0 N := funext fun s => funext fun t7 => funext (lp_all (by kernel_rfl) fun n => by
 show _ = f_9_0r N s t7 (it_f_9_0 N s t7 n)
 kernel_rfl)
theorem run_f_9 (N : Nat) (s : List Txt) (p1 : List Txt) : runST (ofDs [tInt, tTxts]) (tabOf tabL) (tabS (phiL_f_9 N)) inl0 N fi_f_9 sg_f_9 [⟨tTxts, s⟩, ⟨tTxts, p1⟩] = F.f_9 N s p1 := by
 show _ = F.f_9b N (F.f_9_0 N) s p1
 rw [← fe_f_9_0 N]
 kernel_rfl
def sm_f_9 (N : Nat) : Summ := summOf [.d tTxts false, .cl 129 [tTxts]] true [.d tInt false] [tInt, tTxts] (F.f_9 N)
theorem con_f_9 (N : Nat) : Contract Try.prog 125 (sm_f_9 N) := con_of (N := N) tabOK mixed (callOK_list (l := phiL_f_9 N) (allc rfl (con_f_33 N) trivial)) (inl0_ok _) ok_f_9 (by decide) fun s p1 => run_f_9 N s p1
def an_f_6 : Nat → Option Ann := fun _ => none
noncomputable def fi_f_6 : FI := ⟨Try.f90.results.toList, bodyOf Try.f90.body, Try.f90.ntmps, an_f_6⟩
theorem ok_f_6 : FnOK Try.prog 90 fi_f_6 := ⟨⟨Try.f90, Try.func90, by kernel_rfl, rfl, rfl, by kernel_rfl⟩, by kernel_rfl⟩
def phiL_f_6 (N : Nat) : List (Nat × Summ) := [(13000125, sm_f_9 N)]
def sg_f_6 : Summ := sigOf [.d tTxts false, .cl 129 [tTxts]] true [.d (.bool) false]
theorem run_f_6 (N : Nat) (s : List Txt) (p1 : List Txt) : runST (ofDs [.bool, tTxts]) (tabOf tabL) (tabS (phiL_f_6 N)) inl0 N fi_f_6 sg_f_6 [⟨tTxts, s⟩, ⟨tTxts, p1⟩] = F.f_6 N s p1 := by kernel_rfl
def sm_f_6 (N : Nat) : Summ := summOf [.d tTxts false, .cl 129 [tTxts]] true [.d (.bool) false] [.bool, tTxts] (F.f_6 N)
theorem con_f_6 (N : Nat) : Contract Try.prog 90 (sm_f_6 N) := con_of (N := N) tabOK mixed (callOK_list (l := phiL_f_6 N) (allc rfl (con_f_9 N) trivial)) (inl0_ok _) ok_f_6 (by decide) fun s p1 => run_f_6 N s p1
def an_f_66 : Nat → Option Ann := fun _ => none
noncomputable def fi_f_66 : FI := ⟨Try.f104.results.toList, bodyOf Try.f104.body, Try.f104.ntmps, an_f_66⟩
theorem ok_f_66 : FnOK Try.prog 104 fi_f_66 := ⟨⟨Try.f104, Try.func104, by kernel_rfl, rfl, rfl, by kernel_rfl⟩, by kernel_rfl⟩
def phiL_f_66 (N : Nat) : List (Nat × Summ) := [(13000090, sm_f_6 N)]
def sg_f_66 : Summ := sigOf [.d tTxts false, .d tTxts false] false [.d (.bool) false]
theorem run_f_66 (N : Nat) (a : List Txt) (b : List Txt) : runST (ofDs [.bool]) (tabOf tabL) (tabS (phiL_f_66 N)) inl0 N fi_f_66 sg_f_66 [⟨tTxts, a⟩, ⟨tTxts, b⟩] = F.f_66 N a b := by kernel_rfl
def sm_f_66 (N : Nat) : Summ := summOf [.d tTxts false, .d tTxts false] false [.d (.bool) false] [.bool] (F.f_66 N)
theorem con_f_66 (N : Nat) : Contract Try.prog 104 (sm_f_66 N) := con_of (N := N) tabOK mixed (callOK_list (l := phiL_f_66 N) (allc rfl (con_f_6 N) trivial)) (inl0_ok _) ok_f_66 (by decide) fun a b => run_f_66 N a b
def an_f_16 : Nat → Option Ann
 | 0 => some ⟨⟨[(2, kp), (3, kp), (8, kp), (9, kp), (10, kp)], [(2, [kp, kp, kp, kp, kp]), (3, [kp, kp, kp, kp, kp, kp])], []⟩, [(0, ⟨[(2, kp), (3, kp)], [(2, [kp, kp, kp, kp, kp]), (3, [kp, kp, kp, kp, kp, kp])], []⟩)], ⟨[(4, kp)], [], []⟩⟩
 | _ => none
noncomputable def fi_f_16 : FI := ⟨Try.f103.results.toList, bodyOf Try.f103.body, Try.f103.ntmps, an_f_16⟩
theorem ok_f_16 : FnOK Try.prog 103 fi_f_16 := ⟨⟨Try.f103, Try.func103, by kernel_rfl, rfl, rfl, by kernel_rfl⟩, by kernel_rfl⟩
def phiL_f_16 (N : Nat) : List (Nat × Summ) := [(80, sm_f_23 N), (104, sm_f_66 N)]
def sg_f_16 : Summ := sigOf [.d tBook true, .d tWant true] false [.d (.bool) false]
def S_f_16_0 (b : Book) (w : Want) (t9 : Int) (t10 : Int) : St := ⟨[(2, vb 2), (3, vb 3), (8, vv tUse.slice w.2.2.2.1), (9, vv tInt t9), (10, vv tInt t10)], [(2, .box [.v tFoe.slice b.1, .v tSpot.slice b.2.1, .v tTxts b.2.2.1, .v tPart.slice b.2.2.2.1, .v tInt b.2.2.2.2]), (3, .box [.v tInt w.1, .v tInt w.2.1, .v tTxts w.2.2.1, .v tUse.slice w.2.2.2.1, .v tTxts w.2.2.2.2.1, .v tTxts w.2.2.2.2.2])]⟩
noncomputable def E_f_16 (N : Nat) : Env := envOf (tabOf tabL) (tabS (phiL_f_16 N)) inl0 N fi_f_16 []
noncomputable def K_f_16 := (kFun (tabOf tabL) fi_f_16.res (kT (ofDs [.bool]) sg_f_16 []))
noncomputable def its_f_16_0 (N : Nat) (n : Nat) : St → Option Bool := fun S' => iter [] (annAt fi_f_16 0) (code (E_f_16 N) (lpIn fi_f_16.body 0 0) 0) n S' (contOf (E_f_16 N) fi_f_16.body 0 0 K_f_16)
noncomputable def it_f_16_0 (N : Nat) (b : Book) (w : Want) (t9 : Int) (n : Nat) : Int → Option Bool := fun t10 => its_f_16_0 N n (S_f_16_0 b w t9 t10)
theorem fe_f_16_0 (N : Nat) : it_f_16_0 N = f_16_0 N := funext fun b => funext fun w => funext fun t9 => funext (lp_all (by kernel_rfl) fun n => by
 show _ = f_16_0r N b w t9 (it_f_16_0 N b w t9 n)
 kernel_rfl)
theorem run_f_16 (N : Nat) (b : Book) (w : Want) : runST (ofDs [.bool]) (tabOf tabL) (tabS (phiL_f_16 N)) inl0 N fi_f_16 sg_f_16 [⟨tBook, b⟩, ⟨tWant, w⟩] = F.f_16 N b w := by
 show _ = F.f_16b N (F.f_16_0 N) b w
 rw [← fe_f_16_0 N]
 kernel_rfl
def sm_f_16 (N : Nat) : Summ := summOf [.d tBook true, .d tWant true] false [.d (.bool) false] [.bool] (F.f_16 N)
theorem con_f_16 (N : Nat) : Contract Try.prog 103 (sm_f_16 N) := con_of (N := N) tabOK mixed (callOK_list (l := phiL_f_16 N) (allc rfl (con_f_23 N) (allc rfl (con_f_66 N) trivial))) (inl0_ok _) ok_f_16 (by decide) fun b w => run_f_16 N b w
def an_f_12 : Nat → Option Ann
 | 0 => some ⟨⟨[(2, kp), (5, kp), (28, kp), (29, kp), (30, kp)], [(2, [kp, kp, kp, kp, kp]), (5, [kp, kp, kp, kp, kp, kp])], []⟩, [(0, ⟨[], [], []⟩)], ⟨[(4, kp)], [], []⟩⟩
 | _ => none
noncomputable def fi_f_12 : FI := ⟨Try.f59.results.toList, bodyOf Try.f59.body, Try.f59.ntmps, an_f_12⟩
theorem ok_f_12 : FnOK Try.prog 59 fi_f_12 := ⟨⟨Try.f59, Try.func59, by kernel_rfl, rfl, rfl, by kernel_rfl⟩, by kernel_rfl⟩
def phiL_f_12 (N : Nat) : List (Nat × Summ) := [(12, sm_f_25 N), (103, sm_f_16 N), (80, sm_f_23 N), (104, sm_f_66 N)]
def sg_f_12 : Summ := sigOf [.d tBook true, .d tPart true] false [.d (.bool) false]
def S_f_12_0 (b : Book) (p : Part) (t29 : Int) (t30 : Int) : St := ⟨[(2, vb 2), (5, vb 5), (28, vv tUse.slice p.1.2.2.2.1), (29, vv tInt t29), (30, vv tInt t30)], [(2, .box [.v tFoe.slice b.1, .v tSpot.slice b.2.1, .v tTxts b.2.2.1, .v tPart.slice b.2.2.2.1, .v tInt b.2.2.2.2]), (5, .box [.v tInt p.1.1, .v tInt p.1.2.1, .v tTxts p.1.2.2.1, .v tUse.slice p.1.2.2.2.1, .v tTxts p.1.2.2.2.2.1, .v tTxts p.1.2.2.2.2.2])]⟩
noncomputable def E_f_12 (N : Nat) : Env := envOf (tabOf tabL) (tabS (phiL_f_12 N)) inl0 N fi_f_12 []
noncomputable def K_f_12 := (kFun (tabOf tabL) fi_f_12.res (kT (ofDs [.bool]) sg_f_12 []))
noncomputable def its_f_12_0 (N : Nat) (n : Nat) : St → Option Bool := fun S' => iter [] (annAt fi_f_12 0) (code (E_f_12 N) (lpIn fi_f_12.body 0 0) 0) n S' (contOf (E_f_12 N) fi_f_12.body 0 0 K_f_12)
noncomputable def it_f_12_0 (N : Nat) (b : Book) (p : Part) (t29 : Int) (n : Nat) : Int → Option Bool := fun t30 => its_f_12_0 N n (S_f_12_0 b p t29 t30)
theorem fe_f_12_0 (N : Nat) : it_f_12_0 N = f_12_0 N := funext fun b => funext fun p => funext fun t29 => funext (lp_all (by kernel_rfl) fun n => by
 show _ = f_12_0r N b p t29 (it_f_12_0 N b p t29 n)
 kernel_rfl)
theorem run_f_12 (N : Nat) (b : Book) (p : Part) : runST (ofDs [.bool]) (tabOf tabL) (tabS (phiL_f_12 N)) inl0 N fi_f_12 sg_f_12 [⟨tBook, b⟩, ⟨tPart, p⟩] = F.f_12 N b p := by
 show _ = F.f_12b N (F.f_12_0 N) b p
 rw [← fe_f_12_0 N]
 kernel_rfl
def sm_f_12 (N : Nat) : Summ := summOf [.d tBook true, .d tPart true] false [.d (.bool) false] [.bool] (F.f_12 N)
theorem con_f_12 (N : Nat) : Contract Try.prog 59 (sm_f_12 N) := con_of (N := N) tabOK mixed (callOK_list (l := phiL_f_12 N) (allc rfl (con_f_25 N) (allc rfl (con_f_16 N) (allc rfl (con_f_23 N) (allc rfl (con_f_66 N) trivial))))) (inl0_ok _) ok_f_12 (by decide) fun b p => run_f_12 N b p
def an_f_26 : Nat → Option Ann := fun _ => none
noncomputable def fi_f_26 : FI := ⟨Try.f107.results.toList, bodyOf Try.f107.body, Try.f107.ntmps, an_f_26⟩
theorem ok_f_26 : FnOK Try.prog 107 fi_f_26 := ⟨⟨Try.f107, Try.func107, by kernel_rfl, rfl, rfl, by kernel_rfl⟩, by kernel_rfl⟩
def phiL_f_26 (N : Nat) : List (Nat × Summ) := []
def sg_f_26 : Summ := sigOf [.d tUse true, .bx tUse] true [.d (.bool) false]
theorem run_f_26 (N : Nat) (v : Use) (p1 : Use) : runST (ofDs [.bool, tUse]) (tabOf tabL) (tabS (phiL_f_26 N)) inl0 N fi_f_26 sg_f_26 [⟨tUse, v⟩, ⟨tUse, p1⟩] = F.f_26 N v p1 := by kernel_rfl
def sm_f_26 (N : Nat) : Summ := summOf [.d tUse true, .bx tUse] true [.d (.bool) false] [.bool, tUse] (F.f_26 N)
theorem con_f_26 (N : Nat) : Contract Try.prog 107 (sm_f_26 N) := con_of (N := N) tabOK mixed (callOK_list (l := phiL_f_26 N) trivial) (inl0_ok _) ok_f_26 (by decide) fun v p1 => run_f_26 N v p1
def an_f_4 : Nat → Option Ann
 | 0 => some ⟨⟨[(0, kp), (1, kp), (7, kp), (8, kp)], [(500001, [kp, kp, kp])], []⟩, [(0, ⟨[], [(500001, [kp, kp, kp])], []⟩)], ⟨[(4, kp)], [(500001, [kp, kp, kp])], []⟩⟩
 | _ => none
noncomputable def fi_f_4 : FI := ⟨Try.f130.results.toList, bodyOf Try.f130.body, Try.f130.ntmps, an_f_4⟩
theorem ok_f_4 : FnOK Try.prog 130 fi_f_4 := ⟨⟨Try.f130, Try.func130, by kernel_rfl, rfl, rfl, by kernel_rfl⟩, by kernel_rfl⟩
def phiL_f_4 (N : Nat) : List (Nat × Summ) := [(107, sm_f_26 N)]
def sg_f_4 : Summ := sigOf [.d (.slice tUse) false, .cl 107 [tUse]] true [.d tInt false]
def S_f_4_0 (s : List Use) (t7 : Int) (t8 : Int) (fpc0 : Txt) (fpc1 : Int) (fpc2 : Int) : St := ⟨[(0, vv tUse.slice s), (1, AV.w (V1.one (C.fn 107 [500001]))), (7, vv tInt t7), (8, vv tInt t8)], [(500001, .box [.v Ty.str fpc0, .v tInt fpc1, .v tInt fpc2])]⟩
noncomputable def E_f_4 (N : Nat) : Env := envOf (tabOf tabL) (tabS (phiL_f_4 N)) inl0 N fi_f_4 [500001]
noncomputable def K_f_4 := (kFun (tabOf tabL) fi_f_4.res (kT (ofDs [tInt, tUse]) sg_f_4 [(500001, .bx tUse)]))
noncomputable def its_f_4_0 (N : Nat) (n : Nat) : St → Option (Int × Use) := fun S' => iter [500001] (annAt fi_f_4 0) (code (E_f_4 N) (lpIn fi_f_4.body 0 0) 0) n S' (contOf (E_f_4 N) fi_f_4.body 0 0 K_f_4)
noncomputable def it_f_4_0 (N : Nat) (s : List Use) (t7 : Int) (n : Nat) : Int → Txt → Int → Int → Option (Int × Use) := fun t8 fpc0 fpc1 fpc2 => its_f_4_0 N n (S_f_4_0 s t7 t8 fpc0 fpc1 fpc2)
theorem fe_f_4_0 (N : Nat) : it_f_4_0 N = f_4_0 N := funext fun s => funext fun t7 => funext (lp_all (by kernel_rfl) fun n => by
 show _ = f_4_0r N s t7 (it_f_4_0 N s t7 n)
 kernel_rfl)
theorem run_f_4 (N : Nat) (s : List Use) (p1 : Use) : runST (ofDs [tInt, tUse]) (tabOf tabL) (tabS (phiL_f_4 N)) inl0 N fi_f_4 sg_f_4 [⟨.slice tUse, s⟩, ⟨tUse, p1⟩] = F.f_4 N s p1 := by
 show _ = F.f_4b N (F.f_4_0 N) s p1
 rw [← fe_f_4_0 N]
 kernel_rfl
def sm_f_4 (N : Nat) : Summ := summOf [.d (.slice tUse) false, .cl 107 [tUse]] true [.d tInt false] [tInt, tUse] (F.f_4 N)
theorem con_f_4 (N : Nat) : Contract Try.prog 130 (sm_f_4 N) := con_of (N := N) tabOK mixed (callOK_list (l := phiL_f_4 N) (allc rfl (con_f_26 N) trivial)) (inl0_ok _) ok_f_4 (by decide) fun s p1 => run_f_4 N s p1
def an_f_2 : Nat → Option Ann := fun _ => none
noncomputable def fi_f_2 : FI := ⟨Try.f105.results.toList, bodyOf Try.f105.body, Try.f105.ntmps, an_f_2⟩
theorem ok_f_2 : FnOK Try.prog 105 fi_f_2 := ⟨⟨Try.f105, Try.func105, by kernel_rfl, rfl, rfl, by kernel_rfl⟩, by kernel_rfl⟩
def phiL_f_2 (N : Nat) : List (Nat × Summ) := [(10800130, sm_f_4 N)]
def sg_f_2 : Summ := sigOf [.d (.slice tUse) false, .cl 107 [tUse]] true [.d (.bool) false]
theorem run_f_2 (N : Nat) (s : List Use) (p1 : Use) : runST (ofDs [.bool, tUse]) (tabOf tabL) (tabS (phiL_f_2 N)) inl0 N fi_f_2 sg_f_2 [⟨.slice tUse, s⟩, ⟨tUse, p1⟩] = F.f_2 N s p1 := by kernel_rfl
def sm_f_2 (N : Nat) : Summ := summOf [.d (.slice tUse) false, .cl 107 [tUse]] true [.d (.bool) false] [.bool, tUse] (F.f_2 N)
theorem con_f_2 (N : Nat) : Contract Try.prog 105 (sm_f_2 N) := con_of (N := N) tabOK mixed (callOK_list (l := phiL_f_2 N) (allc rfl (con_f_4 N) trivial)) (inl0_ok _) ok_f_2 (by decide) fun s p1 => run_f_2 N s p1
def an_f_45 : Nat → Option Ann := fun _ => none
noncomputable def fi_f_45 : FI := ⟨Try.f106.results.toList, bodyOf Try.f106.body, Try.f106.ntmps, an_f_45⟩
theorem ok_f_45 : FnOK Try.prog 106 fi_f_45 := ⟨⟨Try.f106, Try.func106, by kernel_rfl, rfl, rfl, by kernel_rfl⟩, by kernel_rfl⟩
def phiL_f_45 (N : Nat) : List (Nat × Summ) := [(10800105, sm_f_2 N)]
def sg_f_45 : Summ := sigOf [.d tUse true, .bx tWant] true [.d (.bool) false]
theorem run_f_45 (N : Nat) (u : Use) (p1 : Want) : runST (ofDs [.bool, tWant]) (tabOf tabL) (tabS (phiL_f_45 N)) inl0 N fi_f_45 sg_f_45 [⟨tUse, u⟩, ⟨tWant, p1⟩] = F.f_45 N u p1 := by kernel_rfl
def sm_f_45 (N : Nat) : Summ := summOf [.d tUse true, .bx tWant] true [.d (.bool) false] [.bool, tWant] (F.f_45 N)
theorem con_f_45 (N : Nat) : Contract Try.prog 106 (sm_f_45 N) := con_of (N := N) tabOK mixed (callOK_list (l := phiL_f_45 N) (allc rfl (con_f_2 N) trivial)) (inl0_ok _) ok_f_45 (by decide) fun u p1 => run_f_45 N u p1
def an_f_7 : Nat → Option Ann
 | 0 => some ⟨⟨[(0, kp), (1, kp), (7, kp), (8, kp)], [(500001, [kp, kp, kp, kp, kp, kp])], []⟩, [(0, ⟨[], [(500001, [kp, kp, kp, kp, kp, kp])], []⟩)], ⟨[(4, kp)], [(500001, [kp, kp, kp, kp, kp, kp])], []⟩⟩
 | _ => none
noncomputable def fi_f_7 : FI := ⟨Try.f130.results.toList, bodyOf Try.f130.body, Try.f130.ntmps, an_f_7⟩
theorem ok_f_7 : FnOK Try.prog 130 fi_f_7 := ⟨⟨Try.f130, Try.func130, by kernel_rfl, rfl, rfl, by kernel_rfl⟩, by kernel_rfl⟩
def phiL_f_7 (N : Nat) : List (Nat × Summ) := [(106, sm_f_45 N)]
def sg_f_7 : Summ := sigOf [.d (.slice tUse) false, .cl 106 [tWant]] true [.d tInt false]
def S_f_7_0 (s : List Use) (t7 : Int) (t8 : Int) (fpc0 : Int) (fpc1 : Int) (fpc2 : List Txt) (fpc3 : List Use) (fpc4 : List Txt) (fpc5 : List Txt) : St := ⟨[(0, vv tUse.slice s), (1, AV.w (V1.one (C.fn 106 [500001]))), (7, vv tInt t7), (8, vv tInt t8)], [(500001, .box [.v tInt fpc0, .v tInt fpc1, .v tTxts fpc2, .v tUse.slice fpc3, .v tTxts fpc4, .v tTxts fpc5])]⟩
noncomputable def E_f_7 (N : Nat) : Env := envOf (tabOf tabL) (tabS (phiL_f_7 N)) inl0 N fi_f_7 [500001]
noncomputable def K_f_7 := (kFun (tabOf tabL) fi_f_7.res (kT (ofDs [tInt, tWant]) sg_f_7 [(500001, .bx tWant)]))
noncomputable def its_f_7_0 (N : Nat) (n : Nat) : St → Option (Int × Want) := fun S' => iter [500001] (annAt fi_f_7 0) (code (E_f_7 N) (lpIn fi_f_7.body 0 0) 0) n S' (contOf (E_f_7 N) fi_f_7.body 0 0 K_f_7)
noncomputable def it_f_7_0 (N : Nat) (s : List Use) (t7 : Int) (n : Nat) : Int → Int → Int → (List Txt) → (List Use) → (List Txt) → (List Txt) → Option (Int × Want) := fun t8 fpc0 fpc1 fpc2 fpc3 fpc4 fpc5 => its_f_7_0 N n (S_f_7_0 s t7 t8 fpc0 fpc1 fpc2 fpc3 fpc4 fpc5)
theorem fe_f_7_0 (N : Nat) : it_f_7_0 N = f_7_0 N := funext fun s => funext fun t7 => funext (lp_all (by kernel_rfl) fun n => by
 show _ = f_7_0r N s t7 (it_f_7_0 N s t7 n)
 kernel_rfl)
theorem run_f_7 (N : Nat) (s : List Use) (p1 : Want) : runST (ofDs [tInt, tWant]) (tabOf tabL) (tabS (phiL_f_7 N)) inl0 N fi_f_7 sg_f_7 [⟨.slice tUse, s⟩, ⟨tWant, p1⟩] = F.f_7 N s p1 := by
 show _ = F.f_7b N (F.f_7_0 N) s p1
 rw [← fe_f_7_0 N]
 kernel_rfl
def sm_f_7 (N : Nat) : Summ := summOf [.d (.slice tUse) false, .cl 106 [tWant]] true [.d tInt false] [tInt, tWant] (F.f_7 N)
theorem con_f_7 (N : Nat) : Contract Try.prog 130 (sm_f_7 N) := con_of (N := N) tabOK mixed (callOK_list (l := phiL_f_7 N) (allc rfl (con_f_45 N) trivial)) (inl0_ok _) ok_f_7 (by decide) fun s p1 => run_f_7 N s p1
def an_f_3 : Nat → Option Ann := fun _ => none
noncomputable def fi_f_3 : FI := ⟨Try.f105.results.toList, bodyOf Try.f105.body, Try.f105.ntmps, an_f_3⟩
theorem ok_f_3 : FnOK Try.prog 105 fi_f_3 := ⟨⟨Try.f105, Try.func105, by kernel_rfl, rfl, rfl, by kernel_rfl⟩, by kernel_rfl⟩
def phiL_f_3 (N : Nat) : List (Nat × Summ) := [(10700130, sm_f_7 N)]
def sg_f_3 : Summ := sigOf [.d (.slice tUse) false, .cl 106 [tWant]] true [.d (.bool) false]
theorem run_f_3 (N : Nat) (s : List Use) (p1 : Want) : runST (ofDs [.bool, tWant]) (tabOf tabL) (tabS (phiL_f_3 N)) inl0 N fi_f_3 sg_f_3 [⟨.slice tUse, s⟩, ⟨tWant, p1⟩] = F.f_3 N s p1 := by kernel_rfl
def sm_f_3 (N : Nat) : Summ := summOf [.d (.slice tUse) false, .cl 106 [tWant]] true [.d (.bool) false] [.bool, tWant] (F.f_3 N)
theorem con_f_3 (N : Nat) : Contract Try.prog 105 (sm_f_3 N) := con_of (N := N) tabOK mixed (callOK_list (l := phiL_f_3 N) (allc rfl (con_f_7 N) trivial)) (inl0_ok _) ok_f_3 (by decide) fun s p1 => run_f_3 N s p1
def an_f_84 : Nat → Option Ann := fun _ => none
noncomputable def fi_f_84 : FI := ⟨Try.f60.results.toList, bodyOf Try.f60.body, Try.f60.ntmps, an_f_84⟩
theorem ok_f_84 : FnOK Try.prog 60 fi_f_84 := ⟨⟨Try.f60, Try.func60, by kernel_rfl, rfl, rfl, by kernel_rfl⟩, by kernel_rfl⟩
def phiL_f_84 (N : Nat) : List (Nat × Summ) := [(10700105, sm_f_3 N)]
def sg_f_84 : Summ := sigOf [.d tWant true, .d tWant true] false [.d (.bool) false]
theorem run_f_84 (N : Nat) (a : Want) (b : Want) : runST (ofDs [.bool]) (tabOf tabL) (tabS (phiL_f_84 N)) inl0 N fi_f_84 sg_f_84 [⟨tWant, a⟩, ⟨tWant, b⟩] = F.f_84 N a b := by kernel_rfl
def sm_f_84 (N : Nat) : Summ := summOf [.d tWant true, .d tWant true] false [.d (.bool) false] [.bool] (F.f_84 N)
theorem con_f_84 (N : Nat) : Contract Try.prog 60 (sm_f_84 N) := con_of (N := N) tabOK mixed (callOK_list (l := phiL_f_84 N) (allc rfl (con_f_3 N) trivial)) (inl0_ok _) ok_f_84 (by decide) fun a b => run_f_84 N a b
def an_f_82 : Nat → Option Ann := fun _ => none
noncomputable def fi_f_82 : FI := ⟨Try.f61.results.toList, bodyOf Try.f61.body, Try.f61.ntmps, an_f_82⟩
theorem ok_f_82 : FnOK Try.prog 61 fi_f_82 := ⟨⟨Try.f61, Try.func61, by kernel_rfl, rfl, rfl, by kernel_rfl⟩, by kernel_rfl⟩
def phiL_f_82 (N : Nat) : List (Nat × Summ) := [(45, sm_f_65 N)]
def sg_f_82 : Summ := sigOf [.d tWant true, .d tWant true] false [.d (.bool) false]
theorem run_f_82 (N : Nat) (a : Want) (b : Want) : runST (ofDs [.bool]) (tabOf tabL) (tabS (phiL_f_82 N)) inl0 N fi_f_82 sg_f_82 [⟨tWant, a⟩, ⟨tWant, b⟩] = F.f_82 N a b := by kernel_rfl
def sm_f_82 (N : Nat) : Summ := summOf [.d tWant true, .d tWant true] false [.d (.bool) false] [.bool] (F.f_82 N)
theorem con_f_82 (N : Nat) : Contract Try.prog 61 (sm_f_82 N) := con_of (N := N) tabOK mixed (callOK_list (l := phiL_f_82 N) (allc rfl (con_f_65 N) trivial)) (inl0_ok _) ok_f_82 (by decide) fun a b => run_f_82 N a b
def an_f_24 : Nat → Option Ann
 | 0 => some ⟨⟨[(1, kp), (40, kp), (41, kp), (42, kp)], [(1, [kp, kp, kp, kp, kp])], []⟩, [(0, ⟨[(1, kp)], [(1, [kp, kp, kp, kp, kp])], []⟩)], ⟨[(2, kp)], [], []⟩⟩
 | 2 => some ⟨⟨[(1, kp), (81, kp), (82, kp), (83, kp)], [(1, [kp, kp, kp, kp, kp])], []⟩, [(2, ⟨[(1, kp)], [(1, [kp, kp, kp, kp, kp])], []⟩)], ⟨[(2, kp)], [], []⟩⟩
 | 4 => some ⟨⟨[(1, kp), (149, kp), (150, kp), (151, kp)], [(1, [kp, kp, kp, kp, kp])], []⟩, [(4, ⟨[], [], []⟩)], ⟨[(2, kp)], [], []⟩⟩
 | 6 => some ⟨⟨[(1, kp), (8, kp), (149, kp), (150, kp), (151, kp), (181, kp), (182, kp), (183, kp)], [(1, [kp, kp, kp, kp, kp]), (8, [kp, kp, kp, kp, kp, kp, kp])], []⟩, [(6, ⟨[(1, kp), (149, kp), (150, kp), (151, kp)], [(1, [kp, kp, kp, kp, kp])], []⟩)], ⟨[(2, kp)], [], []⟩⟩
 | _ => none
noncomputable def fi_f_24 : FI := ⟨Try.f17.results.toList, bodyOf Try.f17.body, Try.f17.ntmps, an_f_24⟩
theorem ok_f_24 : FnOK Try.prog 17 fi_f_24 := ⟨⟨Try.f17, Try.func17, by kernel_rfl, rfl, rfl, by kernel_rfl⟩, by kernel_rfl⟩
def phiL_f_24 (N : Nat) : List (Nat × Summ) := [(43, sm_f_83 N), (42, sm_f_97 N), (44, sm_f_94 N), (57, sm_f_19 N), (58, sm_f_17 N), (59, sm_f_12 N), (60, sm_f_84 N), (61, sm_f_82 N)]
def sg_f_24 : Summ := sigOf [.d tBook true] false [.d (.bool) false]
def S_f_24_6 (b : Book) (t150 : Int) (t151 : Int) (t181 : List Part) (t182 : Int) (p8c0 : Int) (p8c1 : Int) (p8c2 : List Txt) (p8c3 : List Use) (p8c4 : List Txt) (p8c5 : List Txt) (p8c6 : Bool) (t183 : Int) : St := ⟨[(1, vb 1), (8, vb 8), (149, vv tPart.slice b.2.2.2.1), (150, vv tInt t150), (151, vv tInt t151), (181, vv tPart.slice t181), (182, vv tInt t182), (183, vv tInt t183)], [(1, .box [.v tFoe.slice b.1, .v tSpot.slice b.2.1, .v tTxts b.2.2.1, .v tPart.slice b.2.2.2.1, .v tInt b.2.2.2.2]), (8, .box [.v tInt p8c0, .v tInt p8c1, .v tTxts p8c2, .v tUse.slice p8c3, .v tTxts p8c4, .v tTxts p8c5, .v Ty.bool p8c6])]⟩
def S_f_24_4 (b : Book) (t150 : Int) (t151 : Int) : St := ⟨[(1, vb 1), (149, vv tPart.slice b.2.2.2.1), (150, vv tInt t150), (151, vv tInt t151)], [(1, .box [.v tFoe.slice b.1, .v tSpot.slice b.2.1, .v tTxts b.2.2.1, .v tPart.slice b.2.2.2.1, .v tInt b.2.2.2.2])]⟩
def S_f_24_2 (b : Book) (t82 : Int) (t83 : Int) : St := ⟨[(1, vb 1), (81, vv tSpot.slice b.2.1), (82, vv tInt t82), (83, vv tInt t83)], [(1, .box [.v tFoe.slice b.1, .v tSpot.slice b.2.1, .v tTxts b.2.2.1, .v tPart.slice b.2.2.2.1, .v tInt b.2.2.2.2])]⟩
def S_f_24_0 (b : Book) (t41 : Int) (t42 : Int) : St := ⟨[(1, vb 1), (40, vv tFoe.slice b.1), (41, vv tInt t41), (42, vv tInt t42)], [(1, .box [.v tFoe.slice b.1, .v tSpot.slice b.2.1, .v tTxts b.2.2.1, .v tPart.slice b.2.2.2.1, .v tInt b.2.2.2.2])]⟩
noncomputable def E_f_24 (N : Nat) : Env := envOf (tabOf tabL) (tabS (phiL_f_24 N)) inl0 N fi_f_24 []
noncomputable def K_f_24 := (kFun (tabOf tabL) fi_f_24.res (kT (ofDs [.bool]) sg_f_24 []))
noncomputable def its_f_24_6 (N : Nat) (nxS4 : St → Option Bool) (n : Nat) : St → Option Bool := fun S' => iter [] (annAt fi_f_24 6) (code (E_f_24 N) (lpIn (lpIn fi_f_24.body 0 4) 4 6) 6) n S' (contOf (E_f_24 N) (lpIn fi_f_24.body 0 4) 4 6 (kLoop [] (annAt fi_f_24 4) nxS4 (contOf (E_f_24 N) fi_f_24.body 0 4 K_f_24)))
noncomputable def it_f_24_6 (N : Nat) (nxS4 : St → Option Bool) (b : Book) (t150 : Int) (t151 : Int) (t181 : List Part) (t182 : Int) (p8c0 : Int) (p8c1 : Int) (p8c2 : List Txt) (p8c3 : List Use) (p8c4 : List Txt) (p8c5 : List Txt) (p8c6 : Bool) (n : Nat) : Int → Option Bool := fun t183 => its_f_24_6 N nxS4 n (S_f_24_6 b t150 t151 t181 t182 p8c0 p8c1 p8c2 p8c3 p8c4 p8c5 p8c6 t183)
theorem fe_f_24_6 (N : Nat) (nxS4 : St → Option Bool) (b : Book) (t150 : Int) : it_f_24_6 N nxS4 b t150 = f_24_6 N (fun t151 => nxS4 (S_f_24_4 b t150 t151)) b t150 := funext fun t151 => funext fun t181 => funext fun t182 => funext fun p8c0 => funext fun p8c1 => funext fun p8c2 => funext fun p8c3 => funext fun p8c4 => funext fun p8c5 => funext fun p8c6 => funext (lp_all (by kernel_rfl) fun n => by
 show _ = f_24_6r N (fun t151 => nxS4 (S_f_24_4 b t150 t151)) b t150 t151 t181 t182 p8c0 p8c1 p8c2 p8c3 p8c4 p8c5 p8c6 (it_f_24_6 N nxS4 b t150 t151 t181 t182 p8c0 p8c1 p8c2 p8c3 p8c4 p8c5 p8c6 n)
 kernel_rfl)
noncomputable def its_f_24_4 (N : Nat) (n : Nat) : St → Option Bool := fun S' => iter [] (annAt fi_f_24 4) (code (E_f_24 N) (lpIn fi_f_24.body 0 4) 4) n S' (contOf (E_f_24 N) fi_f_24.body 0 4 K_f_24)
noncomputable def it_f_24_4 (N : Nat) (b : Book) (t150 : Int) (n : Nat) : Int → Option Bool := fun t151 => its_f_24_4 N n (S_f_24_4 b t150 t151)
theorem fe_f_24_4 (N : Nat) : it_f_24_4 N = f_24_4 N := funext fun b => funext fun t150 => funext (lp_all (by kernel_rfl) fun n => by
 show _ = f_24_4r N (f_24_6 N (it_f_24_4 N b t150 n) b t150) b t150 (it_f_24_4 N b t150 n)
 rw [show f_24_6 N (it_f_24_4 N b t150 n) b t150 = it_f_24_6 N (its_f_24_4 N n) b t150 from (fe_f_24_6 N (its_f_24_4 N n) b t150).symm]
 kernel_rfl)
noncomputable def its_f_24_2 (N : Nat) (n : Nat) : St → Option Bool := fun S' => iter [] (annAt fi_f_24 2) (code (E_f_24 N) (lpIn fi_f_24.body 0 2) 2) n S' (contOf (E_f_24 N) fi_f_24.body 0 2 K_f_24)
noncomputable def it_f_24_2 (N : Nat) (b : Book) (t82 : Int) (n : Nat) : Int → Option Bool := fun t83 => its_f_24_2 N n (S_f_24_2 b t82 t83)
theorem fe_f_24_2 (N : Nat) : it_f_24_2 N = f_24_2 N := funext fun b => funext fun t82 => funext (lp_all (by kernel_rfl) fun n => by
 show _ = f_24_2r N (f_24_4 N) b t82 (it_f_24_2 N b t82 n)
 rw [show f_24_4 N = it_f_24_4 N from (fe_f_24_4 N).symm]
 kernel_rfl)
noncomputable def its_f_24_0 (N : Nat) (n : Nat) : St → Option Bool := fun S' => iter [] (annAt fi_f_24 0) (code (E_f_24 N) (lpIn fi_f_24.body 0 0) 0) n S' (contOf (E_f_24 N) fi_f_24.body 0 0 K_f_24)
noncomputable def it_f_24_0 (N : Nat) (b : Book) (t41 : Int) (n : Nat) : Int → Option Bool := fun t42 => its_f_24_0 N n (S_f_24_0 b t41 t42)
theorem fe_f_24_0 (N : Nat) : it_f_24_0 N = f_24_0 N := funext fun b => funext fun t41 => funext (lp_all (by kernel_rfl) fun n => by
 show _ = f_24_0r N (f_24_2 N) b t41 (it_f_24_0 N b t41 n)
 rw [show f_24_2 N = it_f_24_2 N from (fe_f_24_2 N).symm]
 kernel_rfl)
theorem run_f_24 (N : Nat) (b : Book) : runST (ofDs [.bool]) (tabOf tabL) (tabS (phiL_f_24 N)) inl0 N fi_f_24 sg_f_24 [⟨tBook, b⟩] = F.f_24 N b := by
 show _ = F.f_24b N (F.f_24_0 N) b
 rw [← fe_f_24_0 N]
 kernel_rfl
def sm_f_24 (N : Nat) : Summ := summOf [.d tBook true] false [.d (.bool) false] [.bool] (F.f_24 N)
theorem con_f_24 (N : Nat) : Contract Try.prog 17 (sm_f_24 N) := con_of (N := N) tabOK mixed (callOK_list (l := phiL_f_24 N) (allc rfl (con_f_83 N) (allc rfl (con_f_97 N) (allc rfl (con_f_94 N) (allc rfl (con_f_19 N) (allc rfl (con_f_17 N) (allc rfl (con_f_12 N) (allc rfl (con_f_84 N) (allc rfl (con_f_82 N) trivial))))))))) (inl0_ok _) ok_f_24 (by decide) fun b => run_f_24 N b
def an_f_13 : Nat → Option Ann := fun _ => none
noncomputable def fi_f_13 : FI := ⟨Try.f116.results.toList, bodyOf Try.f116.body, Try.f116.ntmps, an_f_13⟩
theorem ok_f_13 : FnOK Try.prog 116 fi_f_13 := ⟨⟨Try.f116, Try.func116, by kernel_rfl, rfl, rfl, by kernel_rfl⟩, by kernel_rfl⟩
def phiL_f_13 (N : Nat) : List (Nat × Summ) := []
def sg_f_13 : Summ := sigOf [.d (.slice tFoe) false] false [.own (.slice tFoe) false [(86, none)]]
theorem run_f_13 (N : Nat) (s : List Foe) : runST (ofDs [.slice tFoe]) (tabOf tabL) (tabS (phiL_f_13 N)) inl0 N fi_f_13 sg_f_13 [⟨.slice tFoe, s⟩] = F.f_13 N s := by kernel_rfl
def sm_f_13 (N : Nat) : Summ := summOf [.d (.slice tFoe) false] false [.own (.slice tFoe) false [(86, none)]] [.slice tFoe] (F.f_13 N)
theorem con_f_13 (N : Nat) : Contract Try.prog 116 (sm_f_13 N) := con_of (N := N) tabOK mixed (callOK_list (l := phiL_f_13 N) trivial) (inl0_ok _) ok_f_13 (by decide) fun s => run_f_13 N s
def an_f_20 : Nat → Option Ann := fun _ => none
noncomputable def fi_f_20 : FI := ⟨Try.f117.results.toList, bodyOf Try.f117.body, Try.f117.ntmps, an_f_20⟩
theorem ok_f_20 : FnOK Try.prog 117 fi_f_20 := ⟨⟨Try.f117, Try.func117, by kernel_rfl, rfl, rfl, by kernel_rfl⟩, by kernel_rfl⟩
def phiL_f_20 (N : Nat) : List (Nat × Summ) := []
def sg_f_20 : Summ := sigOf [.d tTxts false] false [.own tTxts false [(9, none)]]
theorem run_f_20 (N : Nat) (s : List Txt) : runST (ofDs [tTxts]) (tabOf tabL) (tabS (phiL_f_20 N)) inl0 N fi_f_20 sg_f_20 [⟨tTxts, s⟩] = F.f_20 N s := by kernel_rfl
def sm_f_20 (N : Nat) : Summ := summOf [.d tTxts false] false [.own tTxts false [(9, none)]] [tTxts] (F.f_20 N)
theorem con_f_20 (N : Nat) : Contract Try.prog 117 (sm_f_20 N) := con_of (N := N) tabOK mixed (callOK_list (l := phiL_f_20 N) trivial) (inl0_ok _) ok_f_20 (by decide) fun s => run_f_20 N s
def an_f_14 : Nat → Option Ann := fun _ => none
noncomputable def fi_f_14 : FI := ⟨Try.f136.results.toList, bodyOf Try.f136.body, Try.f136.ntmps, an_f_14⟩
theorem ok_f_14 : FnOK Try.prog 136 fi_f_14 := ⟨⟨Try.f136, Try.func136, by kernel_rfl, rfl, rfl, by kernel_rfl⟩, by kernel_rfl⟩
def phiL_f_14 (N : Nat) : List (Nat × Summ) := []
def sg_f_14 : Summ := sigOf [.d (.slice tUse) false] false [.own (.slice tUse) false [(75, none)]]
theorem run_f_14 (N : Nat) (s : List Use) : runST (ofDs [.slice tUse]) (tabOf tabL) (tabS (phiL_f_14 N)) inl0 N fi_f_14 sg_f_14 [⟨.slice tUse, s⟩] = F.f_14 N s := by kernel_rfl
def sm_f_14 (N : Nat) : Summ := summOf [.d (.slice tUse) false] false [.own (.slice tUse) false [(75, none)]] [.slice tUse] (F.f_14 N)
theorem con_f_14 (N : Nat) : Contract Try.prog 136 (sm_f_14 N) := con_of (N := N) tabOK mixed (callOK_list (l := phiL_f_14 N) trivial) (inl0_ok _) ok_f_14 (by decide) fun s => run_f_14 N s
def an_f_44 : Nat → Option Ann := fun _ => none
noncomputable def fi_f_44 : FI := ⟨Try.f118.results.toList, bodyOf Try.f118.body, Try.f118.ntmps, an_f_44⟩
theorem ok_f_44 : FnOK Try.prog 118 fi_f_44 := ⟨⟨Try.f118, Try.func118, by kernel_rfl, rfl, rfl, by kernel_rfl⟩, by kernel_rfl⟩
def phiL_f_44 (N : Nat) : List (Nat × Summ) := [(117, sm_f_20 N), (136, sm_f_14 N)]
def sg_f_44 : Summ := sigOf [.d tWant true] false [.own tWant true [(9, none), (75, none), (9, none), (9, none)]]
theorem run_f_44 (N : Nat) (w : Want) : runST (ofDs [tWant]) (tabOf tabL) (tabS (phiL_f_44 N)) inl0 N fi_f_44 sg_f_44 [⟨tWant, w⟩] = F.f_44 N w := by kernel_rfl
def sm_f_44 (N : Nat) : Summ := summOf [.d tWant true] false [.own tWant true [(9, none), (75, none), (9, none), (9, none)]] [tWant] (F.f_44 N)
theorem con_f_44 (N : Nat) : Contract Try.prog 118 (sm_f_44 N) := con_of (N := N) tabOK mixed (callOK_list (l := phiL_f_44 N) (allc rfl (con_f_20 N) (allc rfl (con_f_14 N) trivial))) (inl0_ok _) ok_f_44 (by decide) fun w => run_f_44 N w
def an_f_43 : Nat → Option Ann
 | 0 => some ⟨⟨[(1, kp), (2, kp), (3, kp), (18, kp), (19, kp), (20, kp)], [(1, [kp, kp, kp, kp, kp]), (2, [kp, kp, kp, kp, kp]), (3, [.own 1000300 86 tFoe, Dir.dow 1000301 64 [9] tSpot, .own 1000302 9 Ty.str, kp, kp])], []⟩, [(0, ⟨[(1, kp), (2, kp), (3, kp)], [(1, [kp, kp, kp, kp, kp]), (2, [kp, kp, kp, kp, kp]), (3, [.own 1000300 86 tFoe, Dir.dow 1000301 64 [9] tSpot, .own 1000302 9 Ty.str, kp, kp])], []⟩)], ⟨[], [], []⟩⟩
 | 2 => some ⟨⟨[(2, kp), (3, kp), (36, kp), (37, kp), (38, kp)], [(2, [kp, kp, kp, kp, kp]), (3, [.own 1000300 86 tFoe, Dir.dow 1000301 64 [9] tSpot, .own 1000302 9 Ty.str, Dir.dow 1000303 89 [9, 75, 9, 9] tPart, kp])], []⟩, [(2, ⟨[(2, kp), (3, kp)], [(2, [kp, kp, kp, kp, kp]), (3, [.own 1000300 86 tFoe, Dir.dow 1000301 64 [9] tSpot, .own 1000302 9 Ty.str, Dir.dow 1000303 89 [9, 75, 9, 9] tPart, kp])], []⟩)], ⟨[], [], []⟩⟩
 | _ => none
noncomputable def fi_f_43 : FI := ⟨Try.f77.results.toList, bodyOf Try.f77.body, Try.f77.ntmps, an_f_43⟩
theorem ok_f_43 : FnOK Try.prog 77 fi_f_43 := ⟨⟨Try.f77, Try.func77, by kernel_rfl, rfl, rfl, by kernel_rfl⟩, by kernel_rfl⟩
def phiL_f_43 (N : Nat) : List (Nat × Summ) := [(116, sm_f_13 N), (117, sm_f_20 N), (118, sm_f_44 N)]
def sg_f_43 : Summ := sigOf [.d tBook true] false [.own tBook true [(86, none), (64, (some [9])), (9, none), (89, (some [9, 75, 9, 9]))]]
def S_f_43_2 (b : Book) (r : List Foe) (r_1 : List Txt) (t2c4 : Int) (out3c1a : List Spot) (t37 : Int) (t38 : Int) (out3c3a : List Part) : St := ⟨[(2, vb 2), (3, vb 3), (36, vv tPart.slice b.2.2.2.1), (37, vv tInt t37), (38, vv tInt t38)], [(2, .box [.emp, .emp, .emp, .emp, .v tInt t2c4]), (3, .box [.arr 1000300, .arr 1000301, .arr 1000302, .arr 1000303, .v tInt b.2.2.2.2]), (1000300, .arr 86 tFoe r), (1000301, .arr 64 tSpot out3c1a (Dp.yes [9])), (1000302, .arr 9 Ty.str r_1), (1000303, .arr 89 tPart out3c3a (Dp.yes [9, 75, 9, 9]))]⟩
def S_f_43_0 (b : Book) (r : List Foe) (r_1 : List Txt) (t19 : Int) (t2c4 : Int) (t20 : Int) (out3c1a : List Spot) : St := ⟨[(1, vb 1), (2, vb 2), (3, vb 3), (18, vv tSpot.slice b.2.1), (19, vv tInt t19), (20, vv tInt t20)], [(1, .box [.v tFoe.slice b.1, .v tSpot.slice b.2.1, .v tTxts b.2.2.1, .v tPart.slice b.2.2.2.1, .v tInt b.2.2.2.2]), (2, .box [.emp, .emp, .emp, .emp, .v tInt t2c4]), (3, .box [.arr 1000300, .arr 1000301, .arr 1000302, .emp, .v tInt b.2.2.2.2]), (1000300, .arr 86 tFoe r), (1000301, .arr 64 tSpot out3c1a (Dp.yes [9])), (1000302, .arr 9 Ty.str r_1)]⟩
noncomputable def E_f_43 (N : Nat) : Env := envOf (tabOf tabL) (tabS (phiL_f_43 N)) inl0 N fi_f_43 []
noncomputable def K_f_43 := (kFun (tabOf tabL) fi_f_43.res (kT (ofDs [tBook]) sg_f_43 []))
noncomputable def its_f_43_2 (N : Nat) (n : Nat) : St → Option Book := fun S' => iter [] (annAt fi_f_43 2) (code (E_f_43 N) (lpIn fi_f_43.body 0 2) 2) n S' (contOf (E_f_43 N) fi_f_43.body 0 2 K_f_43)
noncomputable def it_f_43_2 (N : Nat) (b : Book) (r : List Foe) (r_1 : List Txt) (t2c4 : Int) (out3c1a : List Spot) (t37 : Int) (n : Nat) : Int → (List Part) → Option Book := fun t38 out3c3a => its_f_43_2 N n (S_f_43_2 b r r_1 t2c4 out3c1a t37 t38 out3c3a)
theorem fe_f_43_2 (N : Nat) : it_f_43_2 N = f_43_2 N := funext fun b => funext fun r => funext fun r_1 => funext fun t2c4 => funext fun out3c1a => funext fun t37 => funext (lp_all (by kernel_rfl) fun n => by
 show _ = f_43_2r N b r r_1 t2c4 out3c1a t37 (it_f_43_2 N b r r_1 t2c4 out3c1a t37 n)
 kernel_rfl)
noncomputable def its_f_43_0 (N : Nat) (n : Nat) : St → Option Book := fun S' => iter [] (annAt fi_f_43 0) (code (E_f_43 N) (lpIn fi_f_43.body 0 0) 0) n S' (contOf (E_f_43 N) fi_f_43.body 0 0 K_f_43)
noncomputable def it_f_43_0 (N : Nat) (b : Book) (r : List Foe) (r_1 : List Txt) (t19 : Int) (t2c4 : Int) (n : Nat) : Int → (List Spot) → Option Book := fun t20 out3c1a => its_f_43_0 N n (S_f_43_0 b r r_1 t19 t2c4 t20 out3c1a)
theorem fe_f_43_0 (N : Nat) : it_f_43_0 N = f_43_0 N := funext fun b => funext fun r => funext fun r_1 => funext fun t19 => funext fun t2c4 => funext (lp_all (by kernel_rfl) fun n => by
 show _ = f_43_0r N (f_43_2 N) b r r_1 t19 t2c4 (it_f_43_0 N b r r_1 t19 t2c4 n)
 rw [show f_43_2 N = it_f_43_2 N from (fe_f_43_2 N).symm]
 kernel_rfl)
theorem run_f_43 (N : Nat) (b : Book) : runST (ofDs [tBook]) (tabOf tabL) (tabS (phiL_f_43 N)) inl0 N fi_f_43 sg_f_43 [⟨tBook, b⟩] = F.f_43 N b := by
 show _ = F.f_43b N (F.f_43_0 N) b
 rw [← fe_f_43_0 N]
 kernel_rfl
def sm_f_43 (N : Nat) : Summ := summOf [.d tBook true] false [.own tBook true [(86, none), (64, (some [9])), (9, none), (89, (some [9, 75, 9, 9]))]] [tBook] (F.f_43 N)
theorem con_f_43 (N : Nat) : Contract Try.prog 77 (sm_f_43 N) := con_of (N := N) tabOK mixed (callOK_list (l := phiL_f_43 N) (allc rfl (con_f_13 N) (allc rfl (con_f_20 N) (allc rfl (con_f_44 N) trivial)))) (inl0_ok _) ok_f_43 (by decide) fun b => run_f_43 N b
def an_f_10 : Nat → Option Ann := fun _ => none
noncomputable def fi_f_10 : FI := ⟨Try.f120.results.toList, bodyOf Try.f120.body, Try.f120.ntmps, an_f_10⟩
theorem ok_f_10 : FnOK Try.prog 120 fi_f_10 := ⟨⟨Try.f120, Try.func120, by kernel_rfl, rfl, rfl, by kernel_rfl⟩, by kernel_rfl⟩
def phiL_f_10 (N : Nat) : List (Nat × Summ) := []
def sg_f_10 : Summ := sigOf [.d tPart true, .bx tInt] true [.d (.bool) false]
theorem run_f_10 (N : Nat) (p : Part) (p1 : Int) : runST (ofDs [.bool, tInt]) (tabOf tabL) (tabS (phiL_f_10 N)) inl0 N fi_f_10 sg_f_10 [⟨tPart, p⟩, ⟨tInt, p1⟩] = F.f_10 N p p1 := by kernel_rfl
def sm_f_10 (N : Nat) : Summ := summOf [.d tPart true, .bx tInt] true [.d (.bool) false] [.bool, tInt] (F.f_10 N)
theorem con_f_10 (N : Nat) : Contract Try.prog 120 (sm_f_10 N) := con_of (N := N) tabOK mixed (callOK_list (l := phiL_f_10 N) trivial) (inl0_ok _) ok_f_10 (by decide) fun p p1 => run_f_10 N p p1
def an_f_0 : Nat → Option Ann
 | 0 => some ⟨⟨[(0, kp), (1, kp), (7, kp), (8, kp)], [(500001, [kp])], []⟩, [(0, ⟨[], [(500001, [kp])], []⟩)], ⟨[(4, kp)], [(500001, [kp])], []⟩⟩
 | _ => none
noncomputable def fi_f_0 : FI := ⟨Try.f119.results.toList, bodyOf Try.f119.body, Try.f119.ntmps, an_f_0⟩
theorem ok_f_0 : FnOK Try.prog 119 fi_f_0 := ⟨⟨Try.f119, Try.func119, by kernel_rfl, rfl, rfl, by kernel_rfl⟩, by kernel_rfl⟩
def phiL_f_0 (N : Nat) : List (Nat × Summ) := [(120, sm_f_10 N)]
def sg_f_0 : Summ := sigOf [.d (.slice tPart) false, .cl 120 [tInt]] true [.d tInt false]
def S_f_0_0 (s : List Part) (t7 : Int) (t8 : Int) (fpc0 : Int) : St := ⟨[(0, vv tPart.slice s), (1, AV.w (V1.one (C.fn 120 [500001]))), (7, vv tInt t7), (8, vv tInt t8)], [(500001, .box [.v tInt fpc0])]⟩
noncomputable def E_f_0 (N : Nat) : Env := envOf (tabOf tabL) (tabS (phiL_f_0 N)) inl0 N fi_f_0 [500001]
noncomputable def K_f_0 := (kFun (tabOf tabL) fi_f_0.res (kT (ofDs [tInt, tInt]) sg_f_0 [(500001, .bx tInt)]))
noncomputable def its_f_0_0 (N : Nat) (n : Nat) : St → Option (Int × Int) := fun S' => iter [500001] (annAt fi_f_0 0) (code (E_f_0 N) (lpIn fi_f_0.body 0 0) 0) n S' (contOf (E_f_0 N) fi_f_0.body 0 0 K_f_0)
noncomputable def it_f_0_0 (N : Nat) (s : List Part) (t7 : Int) (n : Nat) : Int → Int → Option (Int × Int) := fun t8 fpc0 => its_f_0_0 N n (S_f_0_0 s t7 t8 fpc0)
theorem fe_f_0_0 (N : Nat) : it_f_0_0 N = f_0_0 N := funext fun s => funext fun t7 => funext (lp_all (by kernel_rfl) fun n => by
 show _ = f_0_0r N s t7 (it_f_0_0 N s t7 n)
 kernel_rfl)
theorem run_f_0 (N : Nat) (s : List Part) (p1 : Int) : runST (ofDs [tInt, tInt]) (tabOf tabL) (tabS (phiL_f_0 N)) inl0 N fi_f_0 sg_f_0 [⟨.slice tPart, s⟩, ⟨tInt, p1⟩] = F.f_0 N s p1 := by
 show _ = F.f_0b N (F.f_0_0 N) s p1
 rw [← fe_f_0_0 N]
 kernel_rfl
def sm_f_0 (N : Nat) : Summ := summOf [.d (.slice tPart) false, .cl 120 [tInt]] true [.d tInt false] [tInt, tInt] (F.f_0 N)
theorem con_f_0 (N : Nat) : Contract Try.prog 119 (sm_f_0 N) := con_of (N := N) tabOK mixed (callOK_list (l := phiL_f_0 N) (allc rfl (con_f_10 N) trivial)) (inl0_ok _) ok_f_0 (by decide) fun s p1 => run_f_0 N s p1
def an_f_18 : Nat → Option Ann := fun _ => none
noncomputable def fi_f_18 : FI := ⟨Try.f78.results.toList, bodyOf Try.f78.body, Try.f78.ntmps, an_f_18⟩
theorem ok_f_18 : FnOK Try.prog 78 fi_f_18 := ⟨⟨Try.f78, Try.func78, by kernel_rfl, rfl, rfl, by kernel_rfl⟩, by kernel_rfl⟩
def phiL_f_18 (N : Nat) : List (Nat × Summ) := [(12100119, sm_f_0 N)]
def sg_f_18 : Summ := sigOf [.d tBook true, .d tInt false] false [.d tInt false]
theorem run_f_18 (N : Nat) (b : Book) (number : Int) : runST (ofDs [tInt]) (tabOf tabL) (tabS (phiL_f_18 N)) inl0 N fi_f_18 sg_f_18 [⟨tBook, b⟩, ⟨tInt, number⟩] = F.f_18 N b number := by kernel_rfl
def sm_f_18 (N : Nat) : Summ := summOf [.d tBook true, .d tInt false] false [.d tInt false] [tInt] (F.f_18 N)
theorem con_f_18 (N : Nat) : Contract Try.prog 78 (sm_f_18 N) := con_of (N := N) tabOK mixed (callOK_list (l := phiL_f_18 N) (allc rfl (con_f_0 N) trivial)) (inl0_ok _) ok_f_18 (by decide) fun b number => run_f_18 N b number
end
end Go.MC
set_option maxRecDepth 100000
namespace Go.MC
open Go.Proofs Go.MC.F
noncomputable section
def an_f_31 : Nat → Option Ann
 | 0 => some ⟨⟨[(2, kp), (3, kp), (4, kp), (8, kp), (10, kp), (11, kp), (12, kp), (40, kp), (41, kp), (42, kp)], [(4, [kp, kp, kp, kp, kp]), (8, [kp, kp, kp, kp, kp]), (10, [.own 1001000 86 tFoe, Dir.dow 1001001 64 [9] tSpot, .own 1001002 9 Ty.str, Dir.dow 1001003 89 [9, 75, 9, 9] tPart, kp]), (12, [kp, kp, kp, kp, kp, kp])], []⟩, [(0, ⟨[(2, kp), (3, kp), (4, kp), (8, kp), (10, kp), (11, kp), (12, kp)], [(4, [kp, kp, kp, kp, kp]), (8, [.own 1000800 86 tFoe, Dir.dow 1000801 64 [9] tSpot, .own 1000802 9 Ty.str, Dir.dow 1000803 89 [9, 75, 9, 9] tPart, kp]), (10, [.own 1001000 86 tFoe, Dir.dow 1001001 64 [9] tSpot, .own 1001002 9 Ty.str, Dir.dow 1001003 89 [9, 75, 9, 9] tPart, kp]), (12, [kp, kp, kp, kp, kp, kp])], []⟩)], ⟨[(8, kp), (9, kp)], [(8, [.own 1000800 86 tFoe, Dir.dow 1000801 64 [9] tSpot, .own 1000802 9 Ty.str, Dir.dow 1000803 89 [9, 75, 9, 9] tPart, kp])], []⟩⟩
 | 2 => some ⟨⟨[(2, kp), (3, kp), (8, kp), (10, kp), (12, kp), (73, kp), (74, kp), (75, kp)], [(8, [.own 1000800 86 tFoe, Dir.dow 1000801 64 [9] tSpot, .own 1000802 9 Ty.str, Dir.dow 1000803 89 [9, 75, 9, 9] tPart, kp]), (10, [.own 1001000 86 tFoe, Dir.dow 1001001 64 [9] tSpot, .own 1001002 9 Ty.str, Dir.dow 1001003 89 [9, 75, 9, 9] tPart, kp]), (12, [kp, kp, kp, kp, kp, kp])], []⟩, [(2, ⟨[(8, kp), (10, kp)], [(8, [.own 1000800 86 tFoe, Dir.dow 1000801 64 [9] tSpot, .own 1000802 9 Ty.str, Dir.dow 1000803 89 [9, 75, 9, 9] tPart, kp]), (10, [.own 1001000 86 tFoe, Dir.dow 1001001 64 [9] tSpot, .own 1001002 9 Ty.str, Dir.dow 1001003 89 [9, 75, 9, 9] tPart, kp])], []⟩)], ⟨[], [], []⟩⟩
 | _ => none
noncomputable def fi_f_31 : FI := ⟨Try.f28.results.toList, bodyOf Try.f28.body, Try.f28.ntmps, an_f_31⟩
theorem ok_f_31 : FnOK Try.prog 28 fi_f_31 := ⟨⟨Try.f28, Try.func28, by kernel_rfl, rfl, rfl, by kernel_rfl⟩, by kernel_rfl⟩
def phiL_f_31 (N : Nat) : List (Nat × Summ) := [(17, sm_f_24 N), (77, sm_f_43 N), (78, sm_f_18 N), (80, sm_f_23 N)]
def sg_f_31 : Summ := sigOf [.d tBook true, .d tInt false, .d tInt false, .d (.bool) false] false [.own tBook true [(86, none), (64, (some [9])), (9, none), (89, (some [9, 75, 9, 9]))], .d tInt false]
def S_f_31_2 (moved : Int) (done : Bool) (r_1 : Book) (t8c4 : Int) (w12c0 : Int) (w12c1 : Int) (w12c2 : List Txt) (w12c3 : List Use) (w12c4 : List Txt) (w12c5 : List Txt) (t74 : Int) (t8c0a : List Foe) (t8c1a : List Spot) (t8c2a : List Txt) (t8c3a : List Part) (out10c3a_1 : List Part) (t75 : Int) (out10c1a_1 : List Spot) : St := ⟨[(2, vv tInt moved), (3, vv Ty.bool done), (8, vb 8), (10, vb 10), (12, vb 12), (73, vv tUse.slice w12c3), (74, vv tInt t74), (75, vv tInt t75)], [(8, .box [.arr 1000800, .arr 1000801, .arr 1000802, .arr 1000803, .v tInt t8c4]), (10, .box [.arr 1001000, .arr 1001001, .arr 1001002, .arr 1001003, .v tInt r_1.2.2.2.2]), (12, .box [.v tInt w12c0, .v tInt w12c1, .v tTxts w12c2, .v tUse.slice w12c3, .v tTxts w12c4, .v tTxts w12c5]), (1000800, .arr 86 tFoe t8c0a), (1000801, .arr 64 tSpot t8c1a (Dp.yes [9])), (1000802, .arr 9 Ty.str t8c2a), (1000803, .arr 89 tPart t8c3a (Dp.yes [9, 75, 9, 9])), (1001000, .arr 86 tFoe r_1.1), (1001001, .arr 64 tSpot out10c1a_1 (Dp.yes [9])), (1001002, .arr 9 Ty.str r_1.2.2.1), (1001003, .arr 89 tPart out10c3a_1 (Dp.yes [9, 75, 9, 9]))]⟩
def S_f_31_0 (b : Book) (moved : Int) (done : Bool) (r_1 : Book) (r_2 : Int) (t40 : List Use) (t41 : Int) (t8c4 : Int) (w12c0 : Int) (w12c1 : Int) (w12c2 : List Txt) (w12c3 : List Use) (w12c4 : List Txt) (w12c5 : List Txt) (t42 : Int) : St := ⟨[(2, vv tInt moved), (3, vv Ty.bool done), (4, vb 4), (8, vb 8), (10, vb 10), (11, vv tInt r_2), (12, vb 12), (40, vv tUse.slice t40), (41, vv tInt t41), (42, vv tInt t42)], [(4, .box [.v tFoe.slice b.1, .v tSpot.slice b.2.1, .v tTxts b.2.2.1, .v tPart.slice b.2.2.2.1, .v tInt b.2.2.2.2]), (8, .box [.emp, .emp, .emp, .emp, .v tInt t8c4]), (10, .box [.arr 1001000, .arr 1001001, .arr 1001002, .arr 1001003, .v tInt r_1.2.2.2.2]), (12, .box [.v tInt w12c0, .v tInt w12c1, .v tTxts w12c2, .v tUse.slice w12c3, .v tTxts w12c4, .v tTxts w12c5]), (1001000, .arr 86 tFoe r_1.1), (1001001, .arr 64 tSpot r_1.2.1 (Dp.yes [9])), (1001002, .arr 9 Ty.str r_1.2.2.1), (1001003, .arr 89 tPart r_1.2.2.2.1 (Dp.yes [9, 75, 9, 9]))]⟩
noncomputable def E_f_31 (N : Nat) : Env := envOf (tabOf tabL) (tabS (phiL_f_31 N)) inlS N fi_f_31 []
noncomputable def K_f_31 := (kFun (tabOf tabL) fi_f_31.res (kT (ofDs [tBook, tInt]) sg_f_31 []))
noncomputable def its_f_31_2 (N : Nat) (n : Nat) : St → Option (Book × Int) := fun S' => iter [] (annAt fi_f_31 2) (code (E_f_31 N) (lpIn fi_f_31.body 0 2) 2) n S' (contOf (E_f_31 N) fi_f_31.body 0 2 K_f_31)
noncomputable def it_f_31_2 (N : Nat) (moved : Int) (done : Bool) (r_1 : Book) (t8c4 : Int) (w12c0 : Int) (w12c1 : Int) (w12c2 : List Txt) (w12c3 : List Use) (w12c4 : List Txt) (w12c5 : List Txt) (t74 : Int) (t8c0a : List Foe) (t8c1a : List Spot) (t8c2a : List Txt) (t8c3a : List Part) (out10c3a_1 : List Part) (n : Nat) : Int → (List Spot) → Option (Book × Int) := fun t75 out10c1a_1 => its_f_31_2 N n (S_f_31_2 moved done r_1 t8c4 w12c0 w12c1 w12c2 w12c3 w12c4 w12c5 t74 t8c0a t8c1a t8c2a t8c3a out10c3a_1 t75 out10c1a_1)
theorem fe_f_31_2 (N : Nat) : it_f_31_2 N = f_31_2 N := funext fun moved => funext fun done => funext fun r_1 => funext fun t8c4 => funext fun w12c0 => funext fun w12c1 => funext fun w12c2 => funext fun w12c3 => funext fun w12c4 => funext fun w12c5 => funext fun t74 => funext fun t8c0a => funext fun t8c1a => funext fun t8c2a => funext fun t8c3a => funext fun out10c3a_1 => funext (lp_all (by kernel_rfl) fun n => by
 show _ = f_31_2r N moved done r_1 t8c4 w12c0 w12c1 w12c2 w12c3 w12c4 w12c5 t74 t8c0a t8c1a t8c2a t8c3a out10c3a_1 (it_f_31_2 N moved done r_1 t8c4 w12c0 w12c1 w12c2 w12c3 w12c4 w12c5 t74 t8c0a t8c1a t8c2a t8c3a out10c3a_1 n)
 kernel_rfl)
noncomputable def its_f_31_0 (N : Nat) (n : Nat) : St → Option (Book × Int) := fun S' => iter [] (annAt fi_f_31 0) (code (E_f_31 N) (lpIn fi_f_31.body 0 0) 0) n S' (contOf (E_f_31 N) fi_f_31.body 0 0 K_f_31)
noncomputable def it_f_31_0 (N : Nat) (b : Book) (moved : Int) (done : Bool) (r_1 : Book) (r_2 : Int) (t40 : List Use) (t41 : Int) (t8c4 : Int) (w12c0 : Int) (w12c1 : Int) (w12c2 : List Txt) (w12c3 : List Use) (w12c4 : List Txt) (w12c5 : List Txt) (n : Nat) : Int → Option (Book × Int) := fun t42 => its_f_31_0 N n (S_f_31_0 b moved done r_1 r_2 t40 t41 t8c4 w12c0 w12c1 w12c2 w12c3 w12c4 w12c5 t42)
theorem fe_f_31_0 (N : Nat) : it_f_31_0 N = f_31_0 N := funext fun b => funext fun moved => funext fun done => funext fun r_1 => funext fun r_2 => funext fun t40 => funext fun t41 => funext fun t8c4 => funext fun w12c0 => funext fun w12c1 => funext fun w12c2 => funext fun w12c3 => funext fun w12c4 => funext fun w12c5 => funext (lp_all (by kernel_rfl) fun n => by
 show _ = f_31_0r N (f_31_2 N) b moved done r_1 r_2 t40 t41 t8c4 w12c0 w12c1 w12c2 w12c3 w12c4 w12c5 (it_f_31_0 N b moved done r_1 r_2 t40 t41 t8c4 w12c0 w12c1 w12c2 w12c3 w12c4 w12c5 n)
 rw [show f_31_2 N = it_f_31_2 N from (fe_f_31_2 N).symm]
 kernel_rfl)
theorem run_f_31 (N : Nat) (b : Book) (number : Int) (moved : Int) (done : Bool) : runST (ofDs [tBook, tInt]) (tabOf tabL) (tabS (phiL_f_31 N)) inlS N fi_f_31 sg_f_31 [⟨tBook, b⟩, ⟨tInt, number⟩, ⟨tInt, moved⟩, ⟨.bool, done⟩] = F.f_31 N b number moved done := by
 show _ = F.f_31b N (F.f_31_0 N) b number moved done
 rw [← fe_f_31_0 N]
 kernel_rfl
def sm_f_31 (N : Nat) : Summ := summOf [.d tBook true, .d tInt false, .d tInt false, .d (.bool) false] false [.own tBook true [(86, none), (64, (some [9])), (9, none), (89, (some [9, 75, 9, 9]))], .d tInt false] [tBook, tInt] (F.f_31 N)
theorem con_f_31 (N : Nat) : Contract Try.prog 28 (sm_f_31 N) := con_of (N := N) tabOK mixed (callOK_list (l := phiL_f_31 N) (allc rfl (con_f_24 N) (allc rfl (con_f_43 N) (allc rfl (con_f_18 N) (allc rfl (con_f_23 N) trivial))))) inlS_ok ok_f_31 (by decide) fun b number moved done => run_f_31 N b number moved done
def an_f_68 : Nat → Option Ann
 | 0 => some ⟨⟨[(0, kp), (1, kp), (5, kp)], [], []⟩, [(0, ⟨[], [], []⟩)], ⟨[(4, kp)], [], []⟩⟩
 | _ => none
noncomputable def fi_f_68 : FI := ⟨Try.f33.results.toList, bodyOf Try.f33.body, Try.f33.ntmps, an_f_68⟩
theorem ok_f_68 : FnOK Try.prog 33 fi_f_68 := ⟨⟨Try.f33, Try.func33, by kernel_rfl, rfl, rfl, by kernel_rfl⟩, by kernel_rfl⟩
def phiL_f_68 (N : Nat) : List (Nat × Summ) := []
def sg_f_68 : Summ := sigOf [.d tTxts false, .d tTxts false] false [.d (.bool) false]
def S_f_68_0 (a : List Txt) (b : List Txt) (i5 : Int) : St := ⟨[(0, vv tTxts a), (1, vv tTxts b), (5, vv tInt i5)], []⟩
noncomputable def E_f_68 (N : Nat) : Env := envOf (tabOf tabL) (tabS (phiL_f_68 N)) inl0 N fi_f_68 []
noncomputable def K_f_68 := (kFun (tabOf tabL) fi_f_68.res (kT (ofDs [.bool]) sg_f_68 []))
noncomputable def its_f_68_0 (N : Nat) (n : Nat) : St → Option Bool := fun S' => iter [] (annAt fi_f_68 0) (code (E_f_68 N) (lpIn fi_f_68.body 0 0) 0) n S' (contOf (E_f_68 N) fi_f_68.body 0 0 K_f_68)
noncomputable def it_f_68_0 (N : Nat) (a : List Txt) (b : List Txt) (n : Nat) : Int → Option Bool := fun i5 => its_f_68_0 N n (S_f_68_0 a b i5)
theorem fe_f_68_0 (N : Nat) : it_f_68_0 N = f_68_0 N := funext fun a => funext fun b => funext (lp_all (by kernel_rfl) fun n => by
 show _ = f_68_0r N a b (it_f_68_0 N a b n)
 kernel_rfl)
theorem run_f_68 (N : Nat) (a : List Txt) (b : List Txt) : runST (ofDs [.bool]) (tabOf tabL) (tabS (phiL_f_68 N)) inl0 N fi_f_68 sg_f_68 [⟨tTxts, a⟩, ⟨tTxts, b⟩] = F.f_68 N a b := by
 show _ = F.f_68b N (F.f_68_0 N) a b
 rw [← fe_f_68_0 N]
 kernel_rfl
def sm_f_68 (N : Nat) : Summ := summOf [.d tTxts false, .d tTxts false] false [.d (.bool) false] [.bool] (F.f_68 N)
theorem con_f_68 (N : Nat) : Contract Try.prog 33 (sm_f_68 N) := con_of (N := N) tabOK mixed (callOK_list (l := phiL_f_68 N) trivial) (inl0_ok _) ok_f_68 (by decide) fun a b => run_f_68 N a b
def an_f_88 : Nat → Option Ann
 | 0 => some ⟨⟨[(2, kp), (3, kp), (5, kp)], [(2, [kp, kp, kp, kp, kp, kp]), (3, [kp, kp, kp, kp, kp, kp])], []⟩, [(0, ⟨[], [], []⟩)], ⟨[(4, kp)], [], []⟩⟩
 | _ => none
noncomputable def fi_f_88 : FI := ⟨Try.f86.results.toList, bodyOf Try.f86.body, Try.f86.ntmps, an_f_88⟩
theorem ok_f_88 : FnOK Try.prog 86 fi_f_88 := ⟨⟨Try.f86, Try.func86, by kernel_rfl, rfl, rfl, by kernel_rfl⟩, by kernel_rfl⟩
def phiL_f_88 (N : Nat) : List (Nat × Summ) := [(33, sm_f_68 N)]
def sg_f_88 : Summ := sigOf [.d tWant true, .d tWant true] false [.d (.bool) false]
def S_f_88_0 (a : Want) (b : Want) (i5 : Int) : St := ⟨[(2, vb 2), (3, vb 3), (5, vv tInt i5)], [(2, .box [.v tInt a.1, .v tInt a.2.1, .v tTxts a.2.2.1, .v tUse.slice a.2.2.2.1, .v tTxts a.2.2.2.2.1, .v tTxts a.2.2.2.2.2]), (3, .box [.v tInt b.1, .v tInt b.2.1, .v tTxts b.2.2.1, .v tUse.slice b.2.2.2.1, .v tTxts b.2.2.2.2.1, .v tTxts b.2.2.2.2.2])]⟩
noncomputable def E_f_88 (N : Nat) : Env := envOf (tabOf tabL) (tabS (phiL_f_88 N)) inl0 N fi_f_88 []
noncomputable def K_f_88 := (kFun (tabOf tabL) fi_f_88.res (kT (ofDs [.bool]) sg_f_88 []))
noncomputable def its_f_88_0 (N : Nat) (n : Nat) : St → Option Bool := fun S' => iter [] (annAt fi_f_88 0) (code (E_f_88 N) (lpIn fi_f_88.body 0 0) 0) n S' (contOf (E_f_88 N) fi_f_88.body 0 0 K_f_88)
noncomputable def it_f_88_0 (N : Nat) (a : Want) (b : Want) (n : Nat) : Int → Option Bool := fun i5 => its_f_88_0 N n (S_f_88_0 a b i5)
theorem fe_f_88_0 (N : Nat) : it_f_88_0 N = f_88_0 N := funext fun a => funext fun b => funext (lp_all (by kernel_rfl) fun n => by
 show _ = f_88_0r N a b (it_f_88_0 N a b n)
 kernel_rfl)
theorem run_f_88 (N : Nat) (a : Want) (b : Want) : runST (ofDs [.bool]) (tabOf tabL) (tabS (phiL_f_88 N)) inl0 N fi_f_88 sg_f_88 [⟨tWant, a⟩, ⟨tWant, b⟩] = F.f_88 N a b := by
 show _ = F.f_88b N (F.f_88_0 N) a b
 rw [← fe_f_88_0 N]
 kernel_rfl
def sm_f_88 (N : Nat) : Summ := summOf [.d tWant true, .d tWant true] false [.d (.bool) false] [.bool] (F.f_88 N)
theorem con_f_88 (N : Nat) : Contract Try.prog 86 (sm_f_88 N) := con_of (N := N) tabOK mixed (callOK_list (l := phiL_f_88 N) (allc rfl (con_f_68 N) trivial)) (inl0_ok _) ok_f_88 (by decide) fun a b => run_f_88 N a b
def an_f_85 : Nat → Option Ann
 | 0 => some ⟨⟨[(2, kp), (3, kp), (5, kp)], [(2, [kp, kp, kp, kp, kp]), (3, [kp, kp, kp, kp, kp])], []⟩, [(0, ⟨[(2, kp), (3, kp)], [(2, [kp, kp, kp, kp, kp]), (3, [kp, kp, kp, kp, kp])], []⟩)], ⟨[(4, kp)], [], []⟩⟩
 | 2 => some ⟨⟨[(2, kp), (3, kp), (6, kp)], [(2, [kp, kp, kp, kp, kp]), (3, [kp, kp, kp, kp, kp])], []⟩, [(2, ⟨[(2, kp), (3, kp)], [(2, [kp, kp, kp, kp, kp]), (3, [kp, kp, kp, kp, kp])], []⟩)], ⟨[(4, kp)], [], []⟩⟩
 | 4 => some ⟨⟨[(2, kp), (3, kp), (9, kp)], [(2, [kp, kp, kp, kp, kp]), (3, [kp, kp, kp, kp, kp])], []⟩, [(4, ⟨[], [], []⟩)], ⟨[(4, kp)], [], []⟩⟩
 | _ => none
noncomputable def fi_f_85 : FI := ⟨Try.f30.results.toList, bodyOf Try.f30.body, Try.f30.ntmps, an_f_85⟩
theorem ok_f_85 : FnOK Try.prog 30 fi_f_85 := ⟨⟨Try.f30, Try.func30, by kernel_rfl, rfl, rfl, by kernel_rfl⟩, by kernel_rfl⟩
def phiL_f_85 (N : Nat) : List (Nat × Summ) := [(33, sm_f_68 N), (86, sm_f_88 N)]
def sg_f_85 : Summ := sigOf [.d tBook true, .d tBook true] false [.d (.bool) false]
def S_f_85_4 (a : Book) (b : Book) (i9 : Int) : St := ⟨[(2, vb 2), (3, vb 3), (9, vv tInt i9)], [(2, .box [.v tFoe.slice a.1, .v tSpot.slice a.2.1, .v tTxts a.2.2.1, .v tPart.slice a.2.2.2.1, .v tInt a.2.2.2.2]), (3, .box [.v tFoe.slice b.1, .v tSpot.slice b.2.1, .v tTxts b.2.2.1, .v tPart.slice b.2.2.2.1, .v tInt b.2.2.2.2])]⟩
def S_f_85_2 (a : Book) (b : Book) (i6 : Int) : St := ⟨[(2, vb 2), (3, vb 3), (6, vv tInt i6)], [(2, .box [.v tFoe.slice a.1, .v tSpot.slice a.2.1, .v tTxts a.2.2.1, .v tPart.slice a.2.2.2.1, .v tInt a.2.2.2.2]), (3, .box [.v tFoe.slice b.1, .v tSpot.slice b.2.1, .v tTxts b.2.2.1, .v tPart.slice b.2.2.2.1, .v tInt b.2.2.2.2])]⟩
def S_f_85_0 (a : Book) (b : Book) (i5 : Int) : St := ⟨[(2, vb 2), (3, vb 3), (5, vv tInt i5)], [(2, .box [.v tFoe.slice a.1, .v tSpot.slice a.2.1, .v tTxts a.2.2.1, .v tPart.slice a.2.2.2.1, .v tInt a.2.2.2.2]), (3, .box [.v tFoe.slice b.1, .v tSpot.slice b.2.1, .v tTxts b.2.2.1, .v tPart.slice b.2.2.2.1, .v tInt b.2.2.2.2])]⟩
noncomputable def E_f_85 (N : Nat) : Env := envOf (tabOf tabL) (tabS (phiL_f_85 N)) inl0 N fi_f_85 []
noncomputable def K_f_85 := (kFun (tabOf tabL) fi_f_85.res (kT (ofDs [.bool]) sg_f_85 []))
noncomputable def its_f_85_4 (N : Nat) (n : Nat) : St → Option Bool := fun S' => iter [] (annAt fi_f_85 4) (code (E_f_85 N) (lpIn fi_f_85.body 0 4) 4) n S' (contOf (E_f_85 N) fi_f_85.body 0 4 K_f_85)
noncomputable def it_f_85_4 (N : Nat) (a : Book) (b : Book) (n : Nat) : Int → Option Bool := fun i9 => its_f_85_4 N n (S_f_85_4 a b i9)
theorem fe_f_85_4 (N : Nat) : it_f_85_4 N = f_85_4 N := funext fun a => funext fun b => funext (lp_all (by kernel_rfl) fun n => by
 show _ = f_85_4r N a b (it_f_85_4 N a b n)
 kernel_rfl)
noncomputable def its_f_85_2 (N : Nat) (n : Nat) : St → Option Bool := fun S' => iter [] (annAt fi_f_85 2) (code (E_f_85 N) (lpIn fi_f_85.body 0 2) 2) n S' (contOf (E_f_85 N) fi_f_85.body 0 2 K_f_85)
noncomputable def it_f_85_2 (N : Nat) (a : Book) (b : Book) (n : Nat) : Int → Option Bool := fun i6 => its_f_85_2 N n (S_f_85_2 a b i6)
theorem fe_f_85_2 (N : Nat) : it_f_85_2 N = f_85_2 N := funext fun a => funext fun b => funext (lp_all (by kernel_rfl) fun n => by
 show _ = f_85_2r N (f_85_4 N) a b (it_f_85_2 N a b n)
 rw [show f_85_4 N = it_f_85_4 N from (fe_f_85_4 N).symm]
 kernel_rfl)
noncomputable def its_f_85_0 (N : Nat) (n : Nat) : St → Option Bool := fun S' => iter [] (annAt fi_f_85 0) (code (E_f_85 N) (lpIn fi_f_85.body 0 0) 0) n S' (contOf (E_f_85 N) fi_f_85.body 0 0 K_f_85)
noncomputable def it_f_85_0 (N : Nat) (a : Book) (b : Book) (n : Nat) : Int → Option Bool := fun i5 => its_f_85_0 N n (S_f_85_0 a b i5)
theorem fe_f_85_0 (N : Nat) : it_f_85_0 N = f_85_0 N := funext fun a => funext fun b => funext (lp_all (by kernel_rfl) fun n => by
 show _ = f_85_0r N (f_85_2 N) a b (it_f_85_0 N a b n)
 rw [show f_85_2 N = it_f_85_2 N from (fe_f_85_2 N).symm]
 kernel_rfl)
theorem run_f_85 (N : Nat) (a : Book) (b : Book) : runST (ofDs [.bool]) (tabOf tabL) (tabS (phiL_f_85 N)) inl0 N fi_f_85 sg_f_85 [⟨tBook, a⟩, ⟨tBook, b⟩] = F.f_85 N a b := by
 show _ = F.f_85b N (F.f_85_0 N) a b
 rw [← fe_f_85_0 N]
 kernel_rfl
def sm_f_85 (N : Nat) : Summ := summOf [.d tBook true, .d tBook true] false [.d (.bool) false] [.bool] (F.f_85 N)
theorem con_f_85 (N : Nat) : Contract Try.prog 30 (sm_f_85 N) := con_of (N := N) tabOK mixed (callOK_list (l := phiL_f_85 N) (allc rfl (con_f_68 N) (allc rfl (con_f_88 N) trivial))) (inl0_ok _) ok_f_85 (by decide) fun a b => run_f_85 N a b
def an_f_86 : Nat → Option Ann
 | 0 => some ⟨⟨[(1, kp), (2, kp), (4, kp), (5, kp)], [(2, [kp, kp, kp, kp, kp]), (4, [kp, kp, kp, kp, kp, kp])], []⟩, [(0, ⟨[(4, kp)], [(4, [kp, kp, Dir.frz Ty.str, Dir.frz tUse, Dir.frz Ty.str, Dir.frz Ty.str])], []⟩)], ⟨[(4, kp)], [(4, [kp, kp, Dir.frz Ty.str, Dir.frz tUse, Dir.frz Ty.str, Dir.frz Ty.str])], []⟩⟩
 | _ => none
noncomputable def fi_f_86 : FI := ⟨Try.f31.results.toList, bodyOf Try.f31.body, Try.f31.ntmps, an_f_86⟩
theorem ok_f_86 : FnOK Try.prog 31 fi_f_86 := ⟨⟨Try.f31, Try.func31, by kernel_rfl, rfl, rfl, by kernel_rfl⟩, by kernel_rfl⟩
def phiL_f_86 (N : Nat) : List (Nat × Summ) := []
def sg_f_86 : Summ := sigOf [.d tBook true, .d tInt false] true [.d tWant true]
def S_f_86_0 (b : Book) (number : Int) (t4c0 : Int) (t4c1 : Int) (i5 : Int) : St := ⟨[(1, vv tInt number), (2, vb 2), (4, vb 4), (5, vv tInt i5)], [(2, .box [.v tFoe.slice b.1, .v tSpot.slice b.2.1, .v tTxts b.2.2.1, .v tPart.slice b.2.2.2.1, .v tInt b.2.2.2.2]), (4, .box [.v tInt t4c0, .v tInt t4c1, .emp, .emp, .emp, .emp])]⟩
noncomputable def E_f_86 (N : Nat) : Env := envOf (tabOf tabL) (tabS (phiL_f_86 N)) inl0 N fi_f_86 []
noncomputable def K_f_86 := (kFun (tabOf tabL) fi_f_86.res (kT (ofDs [tWant]) sg_f_86 []))
noncomputable def its_f_86_0 (N : Nat) (n : Nat) : St → Option Want := fun S' => iter [] (annAt fi_f_86 0) (code (E_f_86 N) (lpIn fi_f_86.body 0 0) 0) n S' (contOf (E_f_86 N) fi_f_86.body 0 0 K_f_86)
noncomputable def it_f_86_0 (N : Nat) (b : Book) (number : Int) (t4c0 : Int) (t4c1 : Int) (n : Nat) : Int → Option Want := fun i5 => its_f_86_0 N n (S_f_86_0 b number t4c0 t4c1 i5)
theorem fe_f_86_0 (N : Nat) : it_f_86_0 N = f_86_0 N := funext fun b => funext fun number => funext fun t4c0 => funext fun t4c1 => funext (lp_all (by kernel_rfl) fun n => by
 show _ = f_86_0r N b number t4c0 t4c1 (it_f_86_0 N b number t4c0 t4c1 n)
 kernel_rfl)
theorem run_f_86 (N : Nat) (b : Book) (number : Int) : runST (ofDs [tWant]) (tabOf tabL) (tabS (phiL_f_86 N)) inl0 N fi_f_86 sg_f_86 [⟨tBook, b⟩, ⟨tInt, number⟩] = F.f_86 N b number := by
 show _ = F.f_86b N (F.f_86_0 N) b number
 rw [← fe_f_86_0 N]
 kernel_rfl
def sm_f_86 (N : Nat) : Summ := summOf [.d tBook true, .d tInt false] true [.d tWant true] [tWant] (F.f_86 N)
theorem con_f_86 (N : Nat) : Contract Try.prog 31 (sm_f_86 N) := con_of (N := N) tabOK mixed (callOK_list (l := phiL_f_86 N) trivial) (inl0_ok _) ok_f_86 (by decide) fun b number => run_f_86 N b number
def an_f_87 : Nat → Option Ann
 | 0 => some ⟨⟨[(1, kp), (2, kp), (5, kp)], [(2, [kp, kp, kp, kp, kp, kp])], []⟩, [(0, ⟨[], [], []⟩)], ⟨[(4, kp)], [], []⟩⟩
 | _ => none
noncomputable def fi_f_87 : FI := ⟨Try.f32.results.toList, bodyOf Try.f32.body, Try.f32.ntmps, an_f_87⟩
theorem ok_f_87 : FnOK Try.prog 32 fi_f_87 := ⟨⟨Try.f32, Try.func32, by kernel_rfl, rfl, rfl, by kernel_rfl⟩, by kernel_rfl⟩
def phiL_f_87 (N : Nat) : List (Nat × Summ) := []
def sg_f_87 : Summ := sigOf [.d tWant true, .d (.str) false] false [.d (.bool) false]
def S_f_87_0 (w : Want) (place : Txt) (i5 : Int) : St := ⟨[(1, vv Ty.str place), (2, vb 2), (5, vv tInt i5)], [(2, .box [.v tInt w.1, .v tInt w.2.1, .v tTxts w.2.2.1, .v tUse.slice w.2.2.2.1, .v tTxts w.2.2.2.2.1, .v tTxts w.2.2.2.2.2])]⟩
noncomputable def E_f_87 (N : Nat) : Env := envOf (tabOf tabL) (tabS (phiL_f_87 N)) inl0 N fi_f_87 []
noncomputable def K_f_87 := (kFun (tabOf tabL) fi_f_87.res (kT (ofDs [.bool]) sg_f_87 []))
noncomputable def its_f_87_0 (N : Nat) (n : Nat) : St → Option Bool := fun S' => iter [] (annAt fi_f_87 0) (code (E_f_87 N) (lpIn fi_f_87.body 0 0) 0) n S' (contOf (E_f_87 N) fi_f_87.body 0 0 K_f_87)
noncomputable def it_f_87_0 (N : Nat) (w : Want) (place : Txt) (n : Nat) : Int → Option Bool := fun i5 => its_f_87_0 N n (S_f_87_0 w place i5)
theorem fe_f_87_0 (N : Nat) : it_f_87_0 N = f_87_0 N := funext fun w => funext fun place => funext (lp_all (by kernel_rfl) fun n => by
 show _ = f_87_0r N w place (it_f_87_0 N w place n)
 kernel_rfl)
theorem run_f_87 (N : Nat) (w : Want) (place : Txt) : runST (ofDs [.bool]) (tabOf tabL) (tabS (phiL_f_87 N)) inl0 N fi_f_87 sg_f_87 [⟨tWant, w⟩, ⟨.str, place⟩] = F.f_87 N w place := by
 show _ = F.f_87b N (F.f_87_0 N) w place
 rw [← fe_f_87_0 N]
 kernel_rfl
def sm_f_87 (N : Nat) : Summ := summOf [.d tWant true, .d (.str) false] false [.d (.bool) false] [.bool] (F.f_87 N)
theorem con_f_87 (N : Nat) : Contract Try.prog 32 (sm_f_87 N) := con_of (N := N) tabOK mixed (callOK_list (l := phiL_f_87 N) trivial) (inl0_ok _) ok_f_87 (by decide) fun w place => run_f_87 N w place
def an_f_67 : Nat → Option Ann
 | 0 => some ⟨⟨[(3, kp), (4, kp), (5, kp), (6, kp), (7, kp), (11, kp), (12, kp)], [(3, [kp, kp, kp, kp, kp]), (7, [.own 1000700 86 tFoe, .own 1000701 64 tSpot, .own 1000702 9 Ty.str, Dir.dow 1000703 89 [9, 75, 9, 9] tPart, kp]), (11, [kp, kp, kp, kp, kp, kp])], []⟩, [(0, ⟨[(3, kp), (4, kp), (5, kp), (6, kp), (7, kp)], [(3, [kp, kp, kp, kp, kp]), (7, [.own 1000700 86 tFoe, .own 1000701 64 tSpot, .own 1000702 9 Ty.str, Dir.dow 1000703 89 [9, 75, 9, 9] tPart, kp])], []⟩)], ⟨[(2, kp)], [], []⟩⟩
 | _ => none
noncomputable def fi_f_67 : FI := ⟨Try.f8.results.toList, bodyOf Try.f8.body, Try.f8.ntmps, an_f_67⟩
theorem ok_f_67 : FnOK Try.prog 8 fi_f_67 := ⟨⟨Try.f8, Try.func8, by kernel_rfl, rfl, rfl, by kernel_rfl⟩, by kernel_rfl⟩
def phiL_f_67 (N : Nat) : List (Nat × Summ) := [(27, sm_f_22 N), (28, sm_f_31 N), (29, sm_f_35 N), (30, sm_f_85 N), (31, sm_f_86 N), (32, sm_f_87 N), (33, sm_f_68 N), (17, sm_f_24 N)]
def sg_f_67 : Summ := sigOf [.d (.slice tByte) false] false [.d (.bool) false]
def S_f_67_0 (r : Book × Int × Int × Bool) (r_1 : Book × Int) (r_7 : Want) (i12 : Int) : St := ⟨[(3, vb 3), (4, vv tInt r.2.1), (5, vv tInt r.2.2.1), (6, vv Ty.bool r.2.2.2), (7, vb 7), (11, vb 11), (12, vv tInt i12)], [(3, .box [.v tFoe.slice r.1.1, .v tSpot.slice r.1.2.1, .v tTxts r.1.2.2.1, .v tPart.slice r.1.2.2.2.1, .v tInt r.1.2.2.2.2]), (7, .box [.arr 1000700, .arr 1000701, .arr 1000702, .arr 1000703, .v tInt r_1.1.2.2.2.2]), (11, .box [.v tInt r_7.1, .v tInt r_7.2.1, .v tTxts r_7.2.2.1, .v tUse.slice r_7.2.2.2.1, .v tTxts r_7.2.2.2.2.1, .v tTxts r_7.2.2.2.2.2]), (1000700, .arr 86 tFoe r_1.1.1), (1000701, .arr 64 tSpot r_1.1.2.1), (1000702, .arr 9 Ty.str r_1.1.2.2.1), (1000703, .arr 89 tPart r_1.1.2.2.2.1 (Dp.yes [9, 75, 9, 9]))]⟩
noncomputable def E_f_67 (N : Nat) : Env := envOf (tabOf tabL) (tabS (phiL_f_67 N)) inl0 N fi_f_67 []
noncomputable def K_f_67 := (kFun (tabOf tabL) fi_f_67.res (kT (ofDs [.bool]) sg_f_67 []))
noncomputable def its_f_67_0 (N : Nat) (n : Nat) : St → Option Bool := fun S' => iter [] (annAt fi_f_67 0) (code (E_f_67 N) (lpIn fi_f_67.body 0 0) 0) n S' (contOf (E_f_67 N) fi_f_67.body 0 0 K_f_67)
noncomputable def it_f_67_0 (N : Nat) (r : Book × Int × Int × Bool) (r_1 : Book × Int) (r_7 : Want) (n : Nat) : Int → Option Bool := fun i12 => its_f_67_0 N n (S_f_67_0 r r_1 r_7 i12)
theorem fe_f_67_0 (N : Nat) : it_f_67_0 N = f_67_0 N := funext fun r => funext fun r_1 => funext fun r_7 => funext (lp_all (by kernel_rfl) fun n => by
 show _ = f_67_0r N r r_1 r_7 (it_f_67_0 N r r_1 r_7 n)
 kernel_rfl)
theorem run_f_67 (N : Nat) (code : List (Int)) : runST (ofDs [.bool]) (tabOf tabL) (tabS (phiL_f_67 N)) inl0 N fi_f_67 sg_f_67 [⟨.slice tByte, code⟩] = F.f_67 N code := by
 show _ = F.f_67b N (F.f_67_0 N) code
 rw [← fe_f_67_0 N]
 kernel_rfl
def sm_f_67 (N : Nat) : Summ := summOf [.d (.slice tByte) false] false [.d (.bool) false] [.bool] (F.f_67 N)
theorem con_f_67 (N : Nat) : Contract Try.prog 8 (sm_f_67 N) := con_of (N := N) tabOK mixed (callOK_list (l := phiL_f_67 N) (allc rfl (con_f_22 N) (allc rfl (con_f_31 N) (allc rfl (con_f_35 N) (allc rfl (con_f_85 N) (allc rfl (con_f_86 N) (allc rfl (con_f_87 N) (allc rfl (con_f_68 N) (allc rfl (con_f_24 N) trivial))))))))) (inl0_ok _) ok_f_67 (by decide) fun code => run_f_67 N code
end
end Go.MC
namespace Go.MC
theorem lim_eq : lim = 140737488355328 := rfl
theorem wr {n : Int} (h1 : -9223372036854775808 ≤ n) (h2 : n ≤ 9223372036854775807) : IntKind.i64.wrap n = n := by
  rw [IntKind.wrap_i64]; omega
theorem wrS {i : Nat} (h : i ≤ 1000000000000000000) : IntKind.i64.wrap ((i : Int) + 1) = ((i + 1 : Nat) : Int) := by
  rw [wr (by omega) (by omega)]; omega
theorem wrP {i : Nat} (h : i ≤ 1000000000000000000) (h0 : 0 < i) : IntKind.i64.wrap ((i : Int) - 1) = ((i - 1 : Nat) : Int) := by
  rw [wr (by omega) (by omega)]; omega
theorem ob_eq {α ρ : Type} {o : Option α} {a d : α} {B : α → Option ρ} (h : o = some a) : ob o d B = B a := by rw [h]; rfl
theorem dlt {i n : Nat} (h : i < n) : decide ((i : Int) < (n : Int)) = true := decide_eq_true (by omega)
theorem dnlt (n : Nat) : decide ((n : Int) < (n : Int)) = false := decide_eq_false (by omega)
theorem dge (i : Nat) : decide ((0 : Int) ≤ (i : Int)) = true := decide_eq_true (by omega)
theorem gAt {α : Type} {l : List α} {i : Nat} (h : i < l.length) (d : α) : l.getD (Int.toNat (i : Int)) d = l[i] := by
  rw [Int.toNat_natCast, List.getD_eq_getElem?_getD, List.getElem?_eq_getElem h]; rfl
theorem gAt' {α : Type} {l : List α} {i : Nat} (d : α) : l.getD (Int.toNat (i : Int)) d = l.getD i d := by
  rw [Int.toNat_natCast]
theorem dgt0 (i : Nat) : decide ((i : Int) > 0) = !(i == 0) := by
  cases i <;> simp
def allI {α : Type} (p : Nat → α → Bool) : Nat → List α → Bool
  | _, [] => true
  | i, x :: xs => p i x && allI p (i + 1) xs
theorem allI_iff {α : Type} {p : Nat → α → Bool} : ∀ {l : List α} {i : Nat}, allI p i l = true ↔ ∀ j x, l[j]? = some x → p (i + j) x = true
  | [], i => by simp [allI]
  | x :: xs, i => by
    simp only [allI, Bool.and_eq_true, allI_iff (l := xs)]
    constructor
    · rintro ⟨h1, h2⟩ j y hj
      cases j with
      | zero => simp at hj; subst hj; exact h1
      | succ j =>
        have := h2 j y (by simpa using hj)
        rwa [show i + 1 + j = i + (j + 1) by omega] at this
    · intro h
      refine ⟨h 0 x rfl, fun j y hj => ?_⟩
      have := h (j + 1) y (by simpa using hj)
      rwa [show i + (j + 1) = i + 1 + j by omega] at this
theorem allI_all {α : Type} {p : α → Bool} : ∀ {l : List α} {i : Nat}, allI (fun _ x => p x) i l = l.all p
  | [], _ => rfl
  | x :: xs, i => by simp only [allI, List.all_cons, allI_all]
def outW {σ ρ : Type} (fin : σ → Option ρ) : σ ⊕ Option ρ → Option ρ
  | .inl s => fin s
  | .inr r => r
theorem lp_walk {α σ ρ F : Type} (l : List α) (ap : F → Nat → σ → Option ρ) (z : F) (rd : F → F) (f : Nat → σ → α → σ ⊕ Option ρ) (fin : σ → Option ρ) (Inv : Nat → σ → Prop)
    (hstep : ∀ (g : F) (i : Nat) (st : σ) (h : i < l.length), Inv i st → ap (rd g) i st = outW (fun st' => ap g (i + 1) st') (f i st l[i]) ∧ ∀ st', f i st l[i] = .inl st' → Inv (i + 1) st')
    (hend : ∀ (g : F) (st : σ), Inv l.length st → ap (rd g) l.length st = fin st) (N : Nat) (hN : l.length < N) (st : σ) (h0 : Inv 0 st) :
    ap (lp z rd N) 0 st = outW fin (walkL f 0 l st) := by
  suffices H : ∀ (m i n : Nat) (st : σ), l.length - i = m → i ≤ l.length → m < n → Inv i st → ap (lp z rd n) i st = outW fin (walkL f i (l.drop i) st) by
    have := H l.length 0 N st (by omega) (by omega) hN h0
    rwa [List.drop_zero] at this
  intro m
  induction m with
  | zero =>
    intro i n st h1 h2 h3 h4
    obtain ⟨n, rfl⟩ : ∃ j, n = j + 1 := ⟨n - 1, by omega⟩
    have hi : i = l.length := by omega
    subst hi
    rw [List.drop_length]
    exact hend _ st h4
  | succ m ih =>
    intro i n st h1 h2 h3 h4
    obtain ⟨n, rfl⟩ : ∃ j, n = j + 1 := ⟨n - 1, by omega⟩
    have hlt : i < l.length := by omega
    obtain ⟨h5, h6⟩ := hstep (lp z rd n) i st hlt h4
    rw [List.drop_eq_getElem_cons hlt]
    simp only [walkL]
    refine h5.trans ?_
    cases hf : f i st l[i] with
    | inl st' => exact ih (i + 1) n st' (by omega) (by omega) (by omega) (h6 st' hf)
    | inr r => rfl
theorem lp_allI {α ρ : Type} (l : List α) (rd : (Int → Option ρ) → Int → Option ρ) (p : Nat → α → Bool) (r fin : Option ρ)
    (hstep : ∀ (g : Int → Option ρ) (i : Nat) (h : i < l.length), rd g (i : Int) = bif p i l[i] then g ((i + 1 : Nat) : Int) else r)
    (hend : ∀ (g : Int → Option ρ), rd g (l.length : Int) = fin) (N : Nat) (hN : l.length < N) : lp (fun _ => none) rd N 0 = bif allI p 0 l then fin else r := by
  have := lp_walk l (fun (g : Int → Option ρ) i (_ : Unit) => g (i : Int)) (fun _ => none) rd (fun i _ x => bif p i x then .inl () else .inr r) (fun _ => fin) (fun _ _ => True)
    (fun g i st h _ => ⟨by
      rw [hstep g i h]
      cases p i l[i] <;> rfl, fun _ _ => trivial⟩) (fun g _ _ => hend g) N hN () trivial
  refine this.trans ?_
  have : ∀ (l : List α) i, outW (fun _ => fin) (walkL (fun i (_ : Unit) x => bif p i x then Sum.inl () else Sum.inr r) i l ()) = bif allI p i l then fin else r := by
    intro l
    induction l with
    | nil => intro i; rfl
    | cons x xs ih =>
      intro i
      simp only [walkL, allI]
      cases p i x with
      | true => simpa using ih (i + 1)
      | false => rfl
  exact this l 0
end Go.MC
namespace Go.MC
open Go.MC.F
def smT (s : Txt) : Prop := s.length ≤ 1048576
def smL (l : List Txt) : Prop := l.length ≤ 1048576 ∧ ∀ x ∈ l, smT x
def smU (u : Use) : Prop := smT u.1
def smW (w : Want) : Prop := smL w.2.2.1 ∧ (w.2.2.2.1.length ≤ 1048576 ∧ ∀ u ∈ w.2.2.2.1, smU u) ∧ smL w.2.2.2.2.1 ∧ smL w.2.2.2.2.2
def inB (n lo hi : Int) : Bool := decide (n ≥ lo) && decide (n ≤ hi)
theorem l1In {N : Nat} (n lo hi : Int) : f_95 N n lo hi = some (inB n lo hi) := by
  unfold f_95 inB
  cases decide (n ≥ lo) <;> rfl
theorem implIn {N : Nat} (n lo hi : Int) : f_97 N n lo hi = some (inB n lo hi) := by
  unfold f_97 inB
  cases decide (n ≥ lo) <;> rfl
def nmB (b : UInt8) : Bool := (decide ((b.toNat : Int) ≥ 97) && decide ((b.toNat : Int) ≤ 122)) || ((decide ((b.toNat : Int) ≥ 48) && decide ((b.toNat : Int) ≤ 57)) || ((b.toNat : Int) == 45))
def nmOk (s : Txt) : Bool := inB s.length 1 8 && s.all nmB
theorem l1NameOk {N : Nat} (hN : lim < N) (s : Txt) : f_46 N s = some (nmOk s) := by
  have hlim := lim_eq
  unfold f_46 f_46b nmOk
  rw [ob_eq (l1In _ _ _)]
  cases hb : inB s.length 1 8 with
  | false => rfl
  | true =>
    have hl : s.length ≤ 8 := by
      simp only [inB, Bool.and_eq_true, decide_eq_true_eq] at hb
      omega
    refine (lp_allI s _ (fun _ x => nmB x) (some false) (some true) (fun g i hi => ?_) (fun g => ?_) N (by omega)).trans ?_
    · unfold f_46_0r
      simp only [dlt hi, dge, gAt hi, cond_true, wrS (show i ≤ 1000000000000000000 by omega), nmB]
      generalize decide ((s[i].toNat : Int) ≥ 97) = a1
      generalize decide ((s[i].toNat : Int) ≤ 122) = a2
      generalize decide ((s[i].toNat : Int) ≥ 48) = a3
      generalize decide ((s[i].toNat : Int) ≤ 57) = a4
      generalize ((s[i].toNat : Int) == 45) = a5
      cases a1 <;> cases a2 <;> cases a3 <;> cases a4 <;> cases a5 <;> rfl
    · unfold f_46_0r
      rw [dnlt]; rfl
    · rw [allI_all]
      cases s.all nmB <;> rfl
theorem implName {N : Nat} (hN : lim < N) (s : Txt) : f_94 N s = some (nmOk s) := by
  have hlim := lim_eq
  unfold f_94 f_94b nmOk
  rw [ob_eq (implIn _ _ _)]
  cases hb : inB s.length 1 8 with
  | false => rfl
  | true =>
    have hl : s.length ≤ 8 := by
      simp only [inB, Bool.and_eq_true, decide_eq_true_eq] at hb
      omega
    refine (lp_allI s _ (fun _ x => nmB x) (some false) (some true) (fun g i hi => ?_) (fun g => ?_) N (by omega)).trans ?_
    · unfold f_94_0r
      simp only [dlt hi, dge, gAt hi, cond_true, wrS (show i ≤ 1000000000000000000 by omega), nmB]
      generalize decide ((s[i].toNat : Int) ≥ 97) = a1
      generalize decide ((s[i].toNat : Int) ≤ 122) = a2
      generalize decide ((s[i].toNat : Int) ≥ 48) = a3
      generalize decide ((s[i].toNat : Int) ≤ 57) = a4
      generalize ((s[i].toNat : Int) == 45) = a5
      cases a1 <;> cases a2 <;> cases a3 <;> cases a4 <;> cases a5 <;> rfl
    · unfold f_94_0r
      rw [dnlt]; rfl
    · rw [allI_all]
      cases s.all nmB <;> rfl
def ascI (l : List Txt) (i : Nat) (x : Txt) : Bool := i == 0 || Op.bytesLess (l.getD (i - 1) []) x
def nmsOk (l : List Txt) (most : Int) : Bool := !decide ((l.length : Int) > most) && allI (fun i x => nmOk x && ascI l i x) 0 l
theorem l1NamesOk {N : Nat} (hN : lim < N) {l : List Txt} (hl : l.length ≤ lim) (most : Int) : f_37 N l most = some (nmsOk l most) := by
  have hlim := lim_eq
  unfold f_37 f_37b nmsOk
  cases hb : decide ((l.length : Int) > most) with
  | true => rfl
  | false =>
    refine (lp_allI l _ (fun i x => nmOk x && ascI l i x) (some false) (some true) (fun g i hi => ?_) (fun g => ?_) N (by omega)).trans ?_
    · unfold f_37_0r ascI
      simp only [dlt hi, dge, gAt hi, cond_true, wrS (show i ≤ 1000000000000000000 by omega), dgt0]
      rw [ob_eq (l1NameOk hN _)]
      cases nmOk l[i] with
      | false => rfl
      | true =>
        cases h0 : i == 0 with
        | true => simp
        | false =>
          have h0' : 0 < i := by simp at h0; omega
          simp only [Bool.not_true, Bool.not_false, cond_true, cond_false, wrP (show i ≤ 1000000000000000000 by omega) h0', dge, dlt (show i - 1 < l.length by omega), gAt', Bool.false_or, Bool.true_and]
          cases Op.bytesLess (l.getD (i - 1) []) l[i] <;> rfl
    · unfold f_37_0r
      rw [dnlt]; rfl
    · cases allI (fun i x => nmOk x && ascI l i x) 0 l <;> rfl
theorem implNames {N : Nat} (hN : lim < N) {l : List Txt} (hl : l.length ≤ lim) (most : Int) : f_83 N l most = some (nmsOk l most) := by
  have hlim := lim_eq
  unfold f_83 f_83b nmsOk
  cases hb : decide ((l.length : Int) > most) with
  | true => rfl
  | false =>
    refine (lp_allI l _ (fun i x => nmOk x && ascI l i x) (some false) (some true) (fun g i hi => ?_) (fun g => ?_) N (by omega)).trans ?_
    · unfold f_83_0r ascI
      simp only [dlt hi, dge, gAt hi, cond_true, wrS (show i ≤ 1000000000000000000 by omega), dgt0]
      rw [ob_eq (implName hN _)]
      cases nmOk l[i] with
      | false => rfl
      | true =>
        cases h0 : i == 0 with
        | true => simp
        | false =>
          have h0' : 0 < i := by simp at h0; omega
          simp only [Bool.not_true, Bool.not_false, cond_true, cond_false, wrP (show i ≤ 1000000000000000000 by omega) h0', dge, dlt (show i - 1 < l.length by omega), gAt', Bool.false_or, Bool.true_and]
          cases Op.bytesLess (l.getD (i - 1) []) l[i] <;> rfl
    · unfold f_83_0r
      rw [dnlt]; rfl
    · cases allI (fun i x => nmOk x && ascI l i x) 0 l <;> rfl
theorem l1Has {N : Nat} (hN : lim < N) {l : List Txt} (hl : l.length ≤ lim) (s : Txt) : f_90 N l s = some (l.contains s) := by
  have hlim := lim_eq
  unfold f_90 f_90b
  refine (lp_allI l _ (fun _ x => !(x == s)) (some true) (some false) (fun g i hi => ?_) (fun g => ?_) N (by omega)).trans ?_
  · unfold f_90_0r
    simp only [dlt hi, dge, gAt hi, cond_true, wrS (show i ≤ 1000000000000000000 by omega)]
    cases l[i] == s <;> rfl
  · unfold f_90_0r
    rw [dnlt]; rfl
  · rw [allI_all, List.contains_eq_any_beq]
    have : l.all (fun x => !(x == s)) = !(l.any fun a => s == a) := by
      rw [List.not_any_eq_all_not]
      congr 1; funext x
      rw [Bool.beq_comm]
    rw [this]
    cases l.any fun a => s == a <;> rfl
theorem l1Share {N : Nat} (hN : lim < N) {a b : List Txt} (ha : a.length ≤ lim) (hb : b.length ≤ lim) : f_57 N a b = some (a.any fun x => b.contains x) := by
  have hlim := lim_eq
  unfold f_57 f_57b
  refine (lp_allI a _ (fun _ x => !(b.contains x)) (some true) (some false) (fun g i hi => ?_) (fun g => ?_) N (by omega)).trans ?_
  · unfold f_57_0r
    simp only [dlt hi, dge, gAt hi, cond_true, wrS (show i ≤ 1000000000000000000 by omega)]
    rw [ob_eq (l1Has hN hb _)]
    cases b.contains a[i] <;> rfl
  · unfold f_57_0r
    rw [dnlt]; rfl
  · rw [allI_all]
    have : a.all (fun x => !(b.contains x)) = !(a.any fun x => b.contains x) := by rw [List.not_any_eq_all_not]
    rw [this]
    cases a.any fun x => b.contains x <;> rfl
def idxB {α : Type} (p : α → Bool) : Nat → List α → Int
  | _, [] => -1
  | i, x :: xs => bif p x then (i : Int) else idxB p (i + 1) xs
theorem idxB_nonneg {α : Type} (p : α → Bool) : ∀ (l : List α) (i : Nat), decide (idxB p i l ≥ 0) = l.any p
  | [], _ => rfl
  | x :: xs, i => by
    simp only [idxB, List.any_cons]
    by_cases h : p x = true
    · simp [h]
    · simpa [h] using idxB_nonneg p xs (i + 1)
theorem lp_idx {α : Type} (l : List α) (rd : (Int → Option Int) → Int → Option Int) (p : α → Bool)
    (hstep : ∀ (g : Int → Option Int) (i : Nat) (h : i < l.length), rd g (i : Int) = bif p l[i] then some (i : Int) else g ((i + 1 : Nat) : Int))
    (hend : ∀ (g : Int → Option Int), rd g (l.length : Int) = some (-1)) (N : Nat) (hN : l.length < N) : lp (fun _ => none) rd N 0 = some (idxB p 0 l) := by
  have := lp_walk l (fun (g : Int → Option Int) i (_ : Unit) => g (i : Int)) (fun _ => none) rd (fun i _ x => bif p x then .inr (some (i : Int)) else .inl ()) (fun _ => some (-1)) (fun _ _ => True)
    (fun g i st h _ => ⟨by
      rw [hstep g i h]
      cases p l[i] <;> rfl, fun _ _ => trivial⟩) (fun g _ _ => hend g) N hN () trivial
  refine this.trans ?_
  have : ∀ (l : List α) i, outW (fun _ => some (-1)) (walkL (fun i (_ : Unit) x => bif p x then Sum.inr (some (i : Int)) else Sum.inl ()) i l ()) = some (idxB p i l) := by
    intro l
    induction l with
    | nil => intro i; rfl
    | cons x xs ih =>
      intro i
      simp only [walkL, idxB]
      cases p x with
      | false => simpa using ih (i + 1)
      | true => rfl
  exact this l 0
theorem slicesIndex {N : Nat} (hN : lim < N) {l : List Txt} (hl : l.length ≤ lim) (s : Txt) : f_21 N l s = some (idxB (fun x => s == x) 0 l) := by
  have hlim := lim_eq
  unfold f_21 f_21b
  refine lp_idx l _ (fun x => s == x) (fun g i hi => ?_) (fun g => ?_) N (by omega)
  · unfold f_21_0r
    simp only [dlt hi, dge, gAt hi, cond_true, wrS (show i ≤ 1000000000000000000 by omega)]
  · unfold f_21_0r
    rw [dnlt]; rfl
theorem slicesContains {N : Nat} (hN : lim < N) {l : List Txt} (hl : l.length ≤ lim) (s : Txt) : f_11 N l s = some (l.contains s) := by
  unfold f_11
  rw [ob_eq (slicesIndex hN hl s), idxB_nonneg, List.contains_eq_any_beq]
theorem lp_idxC {α γ : Type} (l : List α) (rd : (Int → γ → Option (Int × γ)) → Int → γ → Option (Int × γ)) (p : α → Bool) (c : γ)
    (hstep : ∀ (g : Int → γ → Option (Int × γ)) (i : Nat) (h : i < l.length), rd g (i : Int) c = bif p l[i] then some ((i : Int), c) else g ((i + 1 : Nat) : Int) c)
    (hend : ∀ (g : Int → γ → Option (Int × γ)), rd g (l.length : Int) c = some (-1, c)) (N : Nat) (hN : l.length < N) : lp (fun _ _ => none) rd N 0 c = some (idxB p 0 l, c) := by
  have := lp_walk l (fun (g : Int → γ → Option (Int × γ)) i (d : γ) => g (i : Int) d) (fun _ _ => none) rd (fun i d x => bif p x then .inr (some ((i : Int), d)) else .inl d) (fun d => some (-1, d)) (fun _ d => d = c)
    (fun g i st h hi => ⟨by
      subst hi
      rw [hstep g i h]
      cases p l[i] <;> rfl, fun st' hs => by
      subst hi
      cases hp : p l[i] with
      | true => rw [hp] at hs; cases hs
      | false => rw [hp] at hs; cases hs; rfl⟩) (fun g d hd => by subst hd; exact hend g) N hN c rfl
  refine this.trans ?_
  have : ∀ (l : List α) i, outW (fun d => some (-1, d)) (walkL (fun i (d : γ) x => bif p x then Sum.inr (some ((i : Int), d)) else Sum.inl d) i l c) = some (idxB p i l, c) := by
    intro l
    induction l with
    | nil => intro i; rfl
    | cons x xs ih =>
      intro i
      simp only [walkL, idxB]
      cases p x with
      | false => simpa using ih (i + 1)
      | true => rfl
  exact this l 0
theorem implCommon {N : Nat} (hN : lim < N) {a b : List Txt} (ha : a.length ≤ lim) (hb : b.length ≤ lim) : f_65 N a b = some (a.any fun x => b.contains x) := by
  have hlim := lim_eq
  unfold f_65 f_5
  have h : f_8 N a b = some (idxB (fun x => b.contains x) 0 a, b) := by
    unfold f_8 f_8b
    refine lp_idxC a _ (fun x => b.contains x) b (fun g i hi => ?_) (fun g => ?_) N (by omega)
    · unfold f_8_0r
      simp only [dlt hi, dge, gAt hi, cond_true, wrS (show i ≤ 1000000000000000000 by omega)]
      have h1 : f_32 N a[i] b = some (b.contains a[i], b) := by
        unfold f_32
        rw [ob_eq (slicesContains hN hb _)]
      rw [ob_eq h1]
    · unfold f_8_0r
      rw [dnlt]; rfl
  rw [ob_eq (a := (a.any fun x => b.contains x, b)) (by rw [ob_eq h, idxB_nonneg])]
end Go.MC
namespace Go.MC
open Go.MC.F
theorem wr3 {a b c : Nat} (ha : a ≤ 1048576) (hb : b ≤ 1048576) (hc : c ≤ 1048576) : IntKind.i64.wrap (IntKind.i64.wrap ((a : Int) + (b : Int)) + (c : Int)) = (a : Int) + (b : Int) + (c : Int) := by
  rw [wr (n := (a : Int) + (b : Int)) (by omega) (by omega), wr (by omega) (by omega)]
theorem dpz (n : Nat) : decide ((n : Int) > 0) = !decide (n = 0) := by cases n <;> simp
theorem dpn (n : Nat) : decide ((n : Int) > 0) = decide (n ≠ 0) := by cases n <;> simp
theorem dsum {a b c : Nat} : ((a : Int) + (b : Int) + (c : Int) == 0) = !decide (a + b + c ≠ 0) := by
  by_cases h : a + b + c = 0
  · rw [decide_eq_false (by omega)]
    exact beq_iff_eq.2 (by omega)
  · rw [decide_eq_true h]
    exact beq_eq_false_iff_ne.2 (by omega)
theorem dsum' {a b c : Nat} : decide ((a : Int) + (b : Int) + (c : Int) > 0) = decide (a + b + c ≠ 0) := by
  by_cases h : a + b + c = 0
  · rw [decide_eq_false (by omega), decide_eq_false (by omega)]
  · rw [decide_eq_true (by omega), decide_eq_true h]
def useOk (w : Want) (i : Nat) (u : Use) : Bool :=
  nmOk u.1 && ((i == 0 || Op.bytesLess (w.2.2.2.1.getD (i - 1) dUse).1 u.1) && (inB u.2.1 1 3 && (bif u.2.1 == 3 then u.2.2 == 0 else (w.2.1 == 1) && inB u.2.2 1 1000)))
def usesOk (w : Want) : Bool := !decide ((w.2.2.2.1.length : Int) > 8) && allI (useOk w) 0 w.2.2.2.1
def wantOk (w : Want) : Bool :=
  inB w.1 1 1000000 && (inB w.2.1 1 3 && (usesOk w && (nmsOk w.2.2.2.2.1 12 && (nmsOk w.2.2.2.2.2 12 && (!(w.2.2.2.2.1.any fun x => w.2.2.2.2.2.contains x) &&
    (decide (w.2.2.2.1.length + w.2.2.2.2.1.length + w.2.2.2.2.2.length ≠ 0) && (((w.2.1 == 1) || decide (w.2.2.2.2.1.length = 0)) && (nmsOk w.2.2.1 8 && ((w.2.1 == 1) == decide (w.2.2.1.length ≠ 0))))))))))
theorem l1UsesOk {N : Nat} (hN : lim < N) (w : Want) : f_47 N w = some (usesOk w) := by
  have hlim := lim_eq
  unfold f_47 f_47b usesOk
  cases hb : decide ((w.2.2.2.1.length : Int) > 8) with
  | true => rfl
  | false =>
    have hl : w.2.2.2.1.length ≤ 8 := by have := of_decide_eq_false hb; omega
    refine (lp_allI w.2.2.2.1 _ (useOk w) (some false) (some true) (fun g i hi => ?_) (fun g => ?_) N (by omega)).trans ?_
    · unfold f_47_0r useOk
      simp only [dlt hi, dge, gAt hi, cond_true, wrS (show i ≤ 1000000000000000000 by omega), dgt0]
      rw [ob_eq (l1NameOk hN _)]
      cases nmOk w.2.2.2.1[i].1 with
      | false => rfl
      | true =>
        have key : (ob (f_95 N w.2.2.2.1[i].2.1 1 3) false fun r => bif !r then some false else bif w.2.2.2.1[i].2.1 == 3 then bif w.2.2.2.1[i].2.2 != 0 then some false else bif w.2.2.2.1[i].2.1 != 3 then bif w.2.1 != 1 then some false else ob (f_95 N w.2.2.2.1[i].2.2 1 1000) false fun r => bif !r then some false else g ((i + 1 : Nat) : Int) else g ((i + 1 : Nat) : Int)
            else bif w.2.2.2.1[i].2.1 != 3 then bif w.2.1 != 1 then some false else ob (f_95 N w.2.2.2.1[i].2.2 1 1000) false fun r => bif !r then some false else g ((i + 1 : Nat) : Int) else g ((i + 1 : Nat) : Int)) =
            bif (inB w.2.2.2.1[i].2.1 1 3 && (bif w.2.2.2.1[i].2.1 == 3 then w.2.2.2.1[i].2.2 == 0 else (w.2.1 == 1) && inB w.2.2.2.1[i].2.2 1 1000)) then g ((i + 1 : Nat) : Int) else some false := by
          rw [ob_eq (l1In _ _ _)]
          simp only [ob_eq (l1In w.2.2.2.1[i].2.2 1 1000), bne]
          cases inB w.2.2.2.1[i].2.1 1 3 <;> cases (w.2.2.2.1[i].2.1 == 3) <;> cases (w.2.2.2.1[i].2.2 == 0) <;> cases (w.2.1 == 1) <;> cases inB w.2.2.2.1[i].2.2 1 1000 <;> rfl
        cases h0 : i == 0 with
        | true =>
          simp only [Bool.not_true, cond_false, Bool.true_or, Bool.true_and]
          exact key
        | false =>
          have h0' : 0 < i := by simp at h0; omega
          simp only [Bool.not_true, Bool.not_false, cond_true, cond_false, wrP (show i ≤ 1000000000000000000 by omega) h0', dge, dlt (show i - 1 < w.2.2.2.1.length by omega), gAt', Bool.false_or, Bool.true_and]
          cases Op.bytesLess (w.2.2.2.1.getD (i - 1) dUse).1 w.2.2.2.1[i].1 with
          | false => rfl
          | true => exact key
    · unfold f_47_0r
      rw [dnlt]; rfl
    · cases allI (useOk w) 0 w.2.2.2.1 <;> rfl
theorem specWantOk {N : Nat} (hN : lim < N) {w : Want} (h : smW w) : f_28 N w = some (wantOk w) := by
  have hlim := lim_eq
  obtain ⟨h1, h2, h3, h4⟩ := h
  have l1 := h1.1
  have l2 := h2.1
  have l3 := h3.1
  have l4 := h4.1
  unfold f_28 wantOk
  rw [wr3 l2 l3 l4]
  rw [ob_eq (l1In _ _ _)]
  simp only [ob_eq (l1In w.2.1 1 3), ob_eq (l1UsesOk hN w), ob_eq (l1NamesOk hN (show w.2.2.2.2.1.length ≤ lim by omega) 12), ob_eq (l1NamesOk hN (show w.2.2.2.2.2.length ≤ lim by omega) 12), ob_eq (l1Share hN (show w.2.2.2.2.1.length ≤ lim by omega) (show w.2.2.2.2.2.length ≤ lim by omega)), ob_eq (l1NamesOk hN (show w.2.2.1.length ≤ lim by omega) 8), bne]
  rw [dsum]
  rw [dpz w.2.2.2.2.1.length]
  rw [dpn w.2.2.1.length]
  generalize inB w.1 1 1000000 = x0
  generalize inB w.2.1 1 3 = x1
  generalize usesOk w = x2
  generalize nmsOk w.2.2.2.2.1 12 = x3
  generalize nmsOk w.2.2.2.2.2 12 = x4
  generalize (w.2.2.2.2.1.any fun x => w.2.2.2.2.2.contains x) = x5
  generalize decide (w.2.2.2.1.length + w.2.2.2.2.1.length + w.2.2.2.2.2.length ≠ 0) = x6
  generalize (w.2.1 == 1) = x7
  generalize decide (w.2.2.2.2.1.length = 0) = x8
  generalize nmsOk w.2.2.1 8 = x9
  generalize decide (w.2.2.1.length ≠ 0) = x10
  revert x0 x1 x2 x3 x4 x5 x6 x7 x8 x9 x10
  decide +kernel
theorem implWantOk {N : Nat} (hN : lim < N) {w : Want} (h : smW w) : f_25 N w = some (wantOk w) := by
  have hlim := lim_eq
  obtain ⟨h1, h2, h3, h4⟩ := h
  have l1 := h1.1
  have l2 := h2.1
  have l3 := h3.1
  have l4 := h4.1
  unfold f_25 f_25b
  rw [ob_eq (implIn _ _ _)]
  simp only [ob_eq (implIn w.2.1 1 3), ob_eq (implNames hN (show w.2.2.1.length ≤ lim by omega) 8)]
  have loop : f_25_0 N w (w.2.1 == 1) (w.2.2.2.1.length : Int) N 0 = bif allI (useOk w) 0 w.2.2.2.1 then (f_25_0r N w (w.2.1 == 1) (w.2.2.2.1.length : Int) (fun _ => none) (w.2.2.2.1.length : Int)) else some false := by
    refine lp_allI w.2.2.2.1 _ (useOk w) (some false) _ (fun g i hi => ?_) (fun g => ?_) N (by omega)
    · unfold f_25_0r useOk
      simp only [dlt hi, dge, gAt hi, cond_true, wrS (show i ≤ 1000000000000000000 by omega), dgt0]
      rw [ob_eq (implName hN _)]
      cases nmOk w.2.2.2.1[i].1 with
      | false => rfl
      | true =>
        have key : (ob (f_97 N w.2.2.2.1[i].2.1 1 3) false fun r => bif !r then some false else bif w.2.2.2.1[i].2.1 == 3 then bif w.2.2.2.1[i].2.2 != 0 then some false else g ((i + 1 : Nat) : Int)
            else bif !(w.2.1 == 1) then some false else ob (f_97 N w.2.2.2.1[i].2.2 1 1000) false fun r => bif !r then some false else g ((i + 1 : Nat) : Int)) =
            bif (inB w.2.2.2.1[i].2.1 1 3 && (bif w.2.2.2.1[i].2.1 == 3 then w.2.2.2.1[i].2.2 == 0 else (w.2.1 == 1) && inB w.2.2.2.1[i].2.2 1 1000)) then g ((i + 1 : Nat) : Int) else some false := by
          rw [ob_eq (implIn _ _ _)]
          simp only [ob_eq (implIn w.2.2.2.1[i].2.2 1 1000), bne]
          cases inB w.2.2.2.1[i].2.1 1 3 <;> cases (w.2.2.2.1[i].2.1 == 3) <;> cases (w.2.2.2.1[i].2.2 == 0) <;> cases (w.2.1 == 1) <;> cases inB w.2.2.2.1[i].2.2 1 1000 <;> rfl
        cases h0 : i == 0 with
        | true =>
          simp only [Bool.not_true, cond_false, Bool.true_or, Bool.true_and]
          exact key
        | false =>
          have h0' : 0 < i := by simp at h0; omega
          simp only [Bool.not_true, Bool.not_false, cond_true, cond_false, wrP (show i ≤ 1000000000000000000 by omega) h0', dge, dlt (show i - 1 < w.2.2.2.1.length by omega), gAt', Bool.false_or, Bool.true_and]
          cases Op.bytesLess (w.2.2.2.1.getD (i - 1) dUse).1 w.2.2.2.1[i].1 with
          | false => rfl
          | true => exact key
    · unfold f_25_0r
      rw [dnlt]; rfl
  rw [loop]
  unfold f_25_0r wantOk usesOk
  rw [dnlt, cond_false, wr3 l2 l3 l4]
  rw [ob_eq (implNames hN (show w.2.2.2.2.1.length ≤ lim by omega) 12)]
  simp only [ob_eq (implNames hN (show w.2.2.2.2.2.length ≤ lim by omega) 12), ob_eq (implCommon hN (show w.2.2.2.2.1.length ≤ lim by omega) (show w.2.2.2.2.2.length ≤ lim by omega))]
  rw [dsum']
  rw [dpz w.2.2.2.2.1.length]
  rw [dpn w.2.2.1.length]
  generalize inB w.1 1 1000000 = x0
  generalize inB w.2.1 1 3 = x1
  generalize nmsOk w.2.2.1 8 = x2
  generalize (w.2.1 == 1) = x3
  generalize decide (w.2.2.1.length ≠ 0) = x4
  generalize decide ((w.2.2.2.1.length : Int) > 8) = x5
  generalize allI (useOk w) 0 w.2.2.2.1 = x6
  generalize nmsOk w.2.2.2.2.1 12 = x7
  generalize nmsOk w.2.2.2.2.2 12 = x8
  generalize (w.2.2.2.2.1.any fun x => w.2.2.2.2.2.contains x) = x9
  generalize decide (w.2.2.2.2.1.length = 0) = x10
  generalize decide (w.2.2.2.1.length + w.2.2.2.2.1.length + w.2.2.2.2.2.length ≠ 0) = x11
  revert x0 x1 x2 x3 x4 x5 x6 x7 x8 x9 x10 x11
  decide +kernel
end Go.MC
namespace Go.MC
open Go.MC.F
def smF (f : Foe) : Prop := smT f.1 ∧ smT f.2
def smS (s : Spot) : Prop := smT s.1 ∧ smL s.2.2.2.2
def smP (p : Part) : Prop := smW p.1
def smB (b : Book) : Prop := (b.1.length ≤ 1048576 ∧ ∀ f ∈ b.1, smF f) ∧ (b.2.1.length ≤ 1048576 ∧ ∀ s ∈ b.2.1, smS s) ∧ smL b.2.2.1 ∧ (b.2.2.2.1.length ≤ 1048576 ∧ ∀ p ∈ b.2.2.2.1, smP p)
end Go.MC
namespace Go.MC
open Go.MC.F
theorem less_irrefl : ∀ l : Txt, Op.bytesLess l l = false
  | [] => rfl
  | a :: x => by
    have : ¬ a < a := UInt8.lt_irrefl a
    simp [Op.bytesLess, this, less_irrefl x]
theorem not_any {α : Type} (l : List α) (p : α → Bool) : l.all (fun x => !p x) = !l.any p := by rw [List.not_any_eq_all_not]
theorem not_all {α : Type} (l : List α) (p : α → Bool) : l.any (fun x => !p x) = !l.all p := by rw [List.not_all_eq_any_not]
def isFoe (b : Book) (x y : Txt) : Bool := b.1.any fun f => (f.1 == x && f.2 == y) || (f.1 == y && f.2 == x)
def clash (b : Book) (x y : List Txt) : Bool := b.1.any fun f => (x.contains f.1 && y.contains f.2) || (x.contains f.2 && y.contains f.1)
theorem clash_eq (b : Book) (x y : List Txt) : clash b x y = x.any fun u => y.any fun v => isFoe b u v := by
  rw [Bool.eq_iff_iff]
  simp only [clash, isFoe, List.any_eq_true, Bool.or_eq_true, Bool.and_eq_true, List.contains_iff_mem, beq_iff_eq]
  constructor
  · rintro ⟨f, hf, ⟨h1, h2⟩ | ⟨h1, h2⟩⟩
    · exact ⟨f.1, h1, f.2, h2, f, hf, .inl ⟨rfl, rfl⟩⟩
    · exact ⟨f.2, h1, f.1, h2, f, hf, .inr ⟨rfl, rfl⟩⟩
  · rintro ⟨u, hu, v, hv, f, hf, ⟨rfl, rfl⟩ | ⟨rfl, rfl⟩⟩
    · exact ⟨f, hf, .inl ⟨hu, hv⟩⟩
    · exact ⟨f, hf, .inr ⟨hu, hv⟩⟩
theorem l2Foes {N : Nat} (hN : lim < N) {b : Book} (hb : b.1.length ≤ 1048576) (x y : Txt) : f_72 N b x y = some (isFoe b x y) := by
  have hlim := lim_eq
  unfold f_72 f_72b
  refine (lp_allI b.1 _ (fun _ f => !((f.1 == x && f.2 == y) || (f.1 == y && f.2 == x))) (some true) (some false) (fun g i hi => ?_) (fun g => ?_) N (by omega)).trans ?_
  · unfold f_72_0r
    simp only [dlt hi, dge, gAt hi, cond_true, wrS (show i ≤ 1000000000000000000 by omega)]
    generalize (b.1[i].1 == x) = a1
    generalize (b.1[i].2 == y) = a2
    generalize (b.1[i].1 == y) = a3
    generalize (b.1[i].2 == x) = a4
    cases a1 <;> cases a2 <;> cases a3 <;> cases a4 <;> rfl
  · unfold f_72_0r
    rw [dnlt]; rfl
  · rw [allI_all, not_any]
    unfold isFoe
    cases b.1.any fun f => (f.1 == x && f.2 == y) || (f.1 == y && f.2 == x) <;> rfl
theorem l2Clash {N : Nat} (hN : lim < N) {b : Book} (hb : b.1.length ≤ 1048576) (x : Txt) {may : List Txt} (hm : may.length ≤ 1048576) : f_58 N b x may = some (may.any fun v => isFoe b x v) := by
  have hlim := lim_eq
  unfold f_58 f_58b
  refine (lp_allI may _ (fun _ v => !(isFoe b x v)) (some true) (some false) (fun g i hi => ?_) (fun g => ?_) N (by omega)).trans ?_
  · unfold f_58_0r
    simp only [dlt hi, dge, gAt hi, cond_true, wrS (show i ≤ 1000000000000000000 by omega)]
    rw [ob_eq (l2Foes hN hb _ _)]
    cases isFoe b x may[i] <;> rfl
  · unfold f_58_0r
    rw [dnlt]; rfl
  · rw [allI_all, not_any]
    cases may.any fun v => isFoe b x v <;> rfl
theorem implFoes {N : Nat} (hN : lim < N) {b : Book} (hb : b.1.length ≤ 1048576) {x y : List Txt} (hx : x.length ≤ 1048576) (hy : y.length ≤ 1048576) : f_17 N b x y = some (clash b x y) := by
  have hlim := lim_eq
  unfold f_17 f_17b
  refine (lp_allI b.1 _ (fun _ f => !((x.contains f.1 && y.contains f.2) || (x.contains f.2 && y.contains f.1))) (some true) (some false) (fun g i hi => ?_) (fun g => ?_) N (by omega)).trans ?_
  · unfold f_17_0r
    simp only [dlt hi, dge, gAt hi, cond_true, wrS (show i ≤ 1000000000000000000 by omega)]
    simp only [ob_eq (slicesContains hN (show x.length ≤ lim by omega) _), ob_eq (slicesContains hN (show y.length ≤ lim by omega) _)]
    generalize x.contains b.1[i].1 = a1
    generalize y.contains b.1[i].2 = a2
    generalize x.contains b.1[i].2 = a3
    generalize y.contains b.1[i].1 = a4
    cases a1 <;> cases a2 <;> cases a3 <;> cases a4 <;> rfl
  · unfold f_17_0r
    rw [dnlt]; rfl
  · rw [allI_all, not_any]
    unfold clash
    cases b.1.any fun f => (x.contains f.1 && y.contains f.2) || (x.contains f.2 && y.contains f.1) <;> rfl
def ahead (f g : Foe) : Bool := Op.bytesLess f.1 g.1 || (f.1 == g.1 && Op.bytesLess f.2 g.2)
def foeOk (b : Book) (i : Nat) (f : Foe) : Bool := nmOk f.1 && (nmOk f.2 && (Op.bytesLess f.1 f.2 && (i == 0 || ahead (b.1.getD (i - 1) dFoe) f)))
def foesOk (b : Book) : Bool := !decide ((b.1.length : Int) > 12) && allI (foeOk b) 0 b.1
theorem implAhead {N : Nat} (f g : Foe) : f_19 N f g = some (ahead f g) := by
  unfold f_19 ahead
  cases Op.bytesLess f.1 g.1 <;> cases (f.1 == g.1) <;> rfl
theorem l2FoesOk {N : Nat} (hN : lim < N) (b : Book) : f_48 N b = some (foesOk b) := by
  have hlim := lim_eq
  unfold f_48 f_48b foesOk
  cases hb : decide ((b.1.length : Int) > 12) with
  | true => rfl
  | false =>
    have hl : b.1.length ≤ 12 := by have := of_decide_eq_false hb; omega
    refine (lp_allI b.1 _ (foeOk b) (some false) (some true) (fun g i hi => ?_) (fun g => ?_) N (by omega)).trans ?_
    · unfold f_48_0r foeOk
      simp only [dlt hi, dge, gAt hi, cond_true, wrS (show i ≤ 1000000000000000000 by omega), dgt0]
      rw [ob_eq (l1NameOk hN _)]
      simp only [ob_eq (l1NameOk hN b.1[i].2)]
      cases nmOk b.1[i].1 with
      | false => rfl
      | true =>
        cases nmOk b.1[i].2 with
        | false => rfl
        | true =>
          cases Op.bytesLess b.1[i].1 b.1[i].2 with
          | false => rfl
          | true =>
            cases h0 : i == 0 with
            | true => rfl
            | false =>
              have h0' : 0 < i := by simp at h0; omega
              simp only [Bool.not_true, Bool.not_false, cond_true, cond_false, wrP (show i ≤ 1000000000000000000 by omega) h0', dge, dlt (show i - 1 < b.1.length by omega), gAt', Bool.false_or, Bool.true_and, ahead]
              cases he : (b.1.getD (i - 1) dFoe).1 == b.1[i].1 with
              | false => cases Op.bytesLess (b.1.getD (i - 1) dFoe).1 b.1[i].1 <;> rfl
              | true =>
                rw [eq_of_beq he, less_irrefl]
                cases Op.bytesLess (b.1.getD (i - 1) dFoe).2 b.1[i].2 <;> rfl
    · unfold f_48_0r
      rw [dnlt]; rfl
    · cases allI (foeOk b) 0 b.1 <;> rfl
def atB (b : Book) (n : Txt) : Int := idxB (fun s : Spot => s.1 == n) 0 b.2.1
theorem l2Spot {N : Nat} (hN : lim < N) {b : Book} (hb : b.2.1.length ≤ 1048576) (n : Txt) : f_74 N b n = some (atB b n) := by
  have hlim := lim_eq
  unfold f_74 f_74b atB
  refine lp_idx b.2.1 _ (fun s : Spot => s.1 == n) (fun g i hi => ?_) (fun g => ?_) N (by omega)
  · unfold f_74_0r
    simp only [dlt hi, dge, gAt hi, cond_true, wrS (show i ≤ 1000000000000000000 by omega)]
  · unfold f_74_0r
    rw [dnlt]; rfl
theorem implAt {N : Nat} (hN : lim < N) {b : Book} (hb : b.2.1.length ≤ 1048576) (n : Txt) : f_23 N b n = some (atB b n) := by
  have hlim := lim_eq
  unfold f_23 atB
  have h : f_1 N b.2.1 n = some (idxB (fun s : Spot => s.1 == n) 0 b.2.1, n) := by
    unfold f_1 f_1b
    refine lp_idxC b.2.1 _ (fun s : Spot => s.1 == n) n (fun g i hi => ?_) (fun g => ?_) N (by omega)
    · unfold f_1_0r
      simp only [dlt hi, dge, gAt hi, cond_true, wrS (show i ≤ 1000000000000000000 by omega)]
      rw [ob_eq (show f_15 N b.2.1[i] n = some (b.2.1[i].1 == n, n) from rfl)]
    · unfold f_1_0r
      rw [dnlt]; rfl
  rw [ob_eq h]
theorem idxB_lt {α : Type} (p : α → Bool) : ∀ (l : List α) (i : Nat), 0 ≤ idxB p i l → idxB p i l < i + l.length
  | [], _, h => by simp [idxB] at h
  | x :: xs, i, h => by
    simp only [idxB] at h ⊢
    by_cases hp : p x = true
    · simp only [hp, cond_true, List.length_cons] at h ⊢; omega
    · have hp : p x = false := by simpa using hp
      simp only [hp, cond_false, List.length_cons] at h ⊢
      have := idxB_lt p xs (i + 1) h
      omega
theorem l1All {N : Nat} (hN : lim < N) {a b : List Txt} (ha : a.length ≤ 1048576) (hb : b.length ≤ 1048576) : f_89 N a b = some (a.all fun x => b.contains x) := by
  have hlim := lim_eq
  unfold f_89 f_89b
  refine (lp_allI a _ (fun _ x => b.contains x) (some false) (some true) (fun g i hi => ?_) (fun g => ?_) N (by omega)).trans ?_
  · unfold f_89_0r
    simp only [dlt hi, dge, gAt hi, cond_true, wrS (show i ≤ 1000000000000000000 by omega)]
    rw [ob_eq (l1Has hN (show b.length ≤ lim by omega) _)]
    cases b.contains a[i] <;> rfl
  · unfold f_89_0r
    rw [dnlt]; rfl
  · rw [allI_all]
    cases a.all fun x => b.contains x <;> rfl
theorem implWithin {N : Nat} (hN : lim < N) {a b : List Txt} (ha : a.length ≤ 1048576) (hb : b.length ≤ 1048576) : f_66 N a b = some (a.all fun x => b.contains x) := by
  have hlim := lim_eq
  unfold f_66 f_6
  have h : f_9 N a b = some (idxB (fun x => !b.contains x) 0 a, b) := by
    unfold f_9 f_9b
    refine lp_idxC a _ (fun x => !b.contains x) b (fun g i hi => ?_) (fun g => ?_) N (by omega)
    · unfold f_9_0r
      simp only [dlt hi, dge, gAt hi, cond_true, wrS (show i ≤ 1000000000000000000 by omega)]
      have h1 : f_33 N a[i] b = some (!b.contains a[i], b) := by
        unfold f_33
        rw [ob_eq (slicesContains hN (show b.length ≤ lim by omega) _)]
      rw [ob_eq h1]
    · unfold f_9_0r
      rw [dnlt]; rfl
  rw [ob_eq (a := (!(a.all fun x => b.contains x), b)) (by rw [ob_eq h, idxB_nonneg, not_all]), Bool.not_not]
def knowsB (b : Book) (w : Want) : Bool := (w.2.2.2.1.all fun u => !decide (atB b u.1 < 0)) && ((w.2.2.2.2.1.all fun x => b.2.2.1.contains x) && (w.2.2.2.2.2.all fun x => b.2.2.1.contains x))
theorem l2Knows {N : Nat} (hN : lim < N) {b : Book} {w : Want} (hb : smB b) (hw : smW w) : f_59 N b w = some (knowsB b w) := by
  have hlim := lim_eq
  have h1 := hw.2.1.1
  have h2 : w.2.2.2.2.1.length ≤ 1048576 := hw.2.2.1.1
  have h3 : w.2.2.2.2.2.length ≤ 1048576 := hw.2.2.2.1
  have h4 : b.2.2.1.length ≤ 1048576 := hb.2.2.1.1
  have h5 := hb.2.1.1
  unfold f_59 f_59b knowsB
  have k4 : f_59_4 N b w N 0 = some (w.2.2.2.2.2.all fun x => b.2.2.1.contains x) := by
    refine (lp_allI w.2.2.2.2.2 _ (fun _ x => b.2.2.1.contains x) (some false) (some true) (fun g i hi => ?_) (fun g => ?_) N (by omega)).trans ?_
    · unfold f_59_4r
      simp only [dlt hi, dge, gAt hi, cond_true, wrS (show i ≤ 1000000000000000000 by omega)]
      rw [ob_eq (l1Has hN (show b.2.2.1.length ≤ lim by omega) _)]
      cases b.2.2.1.contains w.2.2.2.2.2[i] <;> rfl
    · unfold f_59_4r
      rw [dnlt]; rfl
    · rw [allI_all]
      cases w.2.2.2.2.2.all fun x => b.2.2.1.contains x <;> rfl
  have k2 : f_59_2 N b w N 0 = some ((w.2.2.2.2.1.all fun x => b.2.2.1.contains x) && (w.2.2.2.2.2.all fun x => b.2.2.1.contains x)) := by
    refine (lp_allI w.2.2.2.2.1 _ (fun _ x => b.2.2.1.contains x) (some false) (f_59_4 N b w N 0) (fun g i hi => ?_) (fun g => ?_) N (by omega)).trans ?_
    · unfold f_59_2r
      simp only [dlt hi, dge, gAt hi, cond_true, wrS (show i ≤ 1000000000000000000 by omega)]
      rw [ob_eq (l1Has hN (show b.2.2.1.length ≤ lim by omega) _)]
      cases b.2.2.1.contains w.2.2.2.2.1[i] <;> rfl
    · unfold f_59_2r
      rw [dnlt]; rfl
    · rw [allI_all, k4]
      cases w.2.2.2.2.1.all fun x => b.2.2.1.contains x <;> rfl
  refine (lp_allI w.2.2.2.1 _ (fun _ u => !decide (atB b u.1 < 0)) (some false) (f_59_2 N b w N 0) (fun g i hi => ?_) (fun g => ?_) N (by omega)).trans ?_
  · unfold f_59_0r
    simp only [dlt hi, dge, gAt hi, cond_true, wrS (show i ≤ 1000000000000000000 by omega)]
    rw [ob_eq (l2Spot hN h5 _)]
    cases decide (atB b w.2.2.2.1[i].1 < 0) <;> rfl
  · unfold f_59_0r
    rw [dnlt]; rfl
  · rw [allI_all, k2]
    cases w.2.2.2.1.all fun u => !decide (atB b u.1 < 0) <;> rfl
theorem implKnows {N : Nat} (hN : lim < N) {b : Book} {w : Want} (hb : smB b) (hw : smW w) : f_16 N b w = some (knowsB b w) := by
  have hlim := lim_eq
  have h1 := hw.2.1.1
  have h2 : w.2.2.2.2.1.length ≤ 1048576 := hw.2.2.1.1
  have h3 : w.2.2.2.2.2.length ≤ 1048576 := hw.2.2.2.1
  have h4 : b.2.2.1.length ≤ 1048576 := hb.2.2.1.1
  have h5 := hb.2.1.1
  unfold f_16 f_16b knowsB
  refine (lp_allI w.2.2.2.1 _ (fun _ u => !decide (atB b u.1 < 0)) (some false) (some ((w.2.2.2.2.1.all fun x => b.2.2.1.contains x) && (w.2.2.2.2.2.all fun x => b.2.2.1.contains x))) (fun g i hi => ?_) (fun g => ?_) N (by omega)).trans ?_
  · unfold f_16_0r
    simp only [dlt hi, dge, gAt hi, cond_true, wrS (show i ≤ 1000000000000000000 by omega)]
    rw [ob_eq (implAt hN h5 _)]
    cases decide (atB b w.2.2.2.1[i].1 < 0) <;> rfl
  · unfold f_16_0r
    rw [dnlt, cond_false, ob_eq (implWithin hN h2 h4)]
    simp only [ob_eq (implWithin hN h3 h4)]
    cases w.2.2.2.2.1.all fun x => b.2.2.1.contains x <;> rfl
  · rw [allI_all]
    cases w.2.2.2.1.all fun u => !decide (atB b u.1 < 0) <;> rfl
def useIn (s : Spot) (w : Want) (u : Use) : Bool :=
  !((w.2.1 == 2) && decide (s.2.2.2.1 > 0)) && (!((w.2.1 == 1) && (!(u.2.1 == 2) && !(s.2.2.2.2.all fun x => w.2.2.1.contains x))) && (!((w.2.1 == 1) && (!(u.2.1 == 1) && !(w.2.2.1.all fun x => s.2.2.2.2.contains x))) && decide (IntKind.i64.wrap (s.2.2.1 + u.2.2) ≤ s.2.2.2.1)))
theorem l2UseOk {N : Nat} (hN : lim < N) {s : Spot} {w : Want} (hs : smS s) (hw : smW w) (u : Use) : f_60 N s w u = some (useIn s w u) := by
  unfold f_60 useIn
  simp only [ob_eq (l1All hN hs.2.1 hw.1.1), ob_eq (l1All hN hw.1.1 hs.2.1), bne]
  generalize (w.2.1 == 2) = x0
  generalize decide (s.2.2.2.1 > 0) = x1
  generalize (w.2.1 == 1) = x2
  generalize (u.2.1 == 2) = x3
  generalize (u.2.1 == 1) = x4
  generalize (s.2.2.2.2.all fun x => w.2.2.1.contains x) = x5
  generalize (w.2.2.1.all fun x => s.2.2.2.2.contains x) = x6
  generalize decide (IntKind.i64.wrap (s.2.2.1 + u.2.2) ≤ s.2.2.2.1) = x7
  revert x0 x1 x2 x3 x4 x5 x6 x7
  decide +kernel
def spotAt (b : Book) (n : Txt) : Spot := b.2.1.getD (atB b n).toNat dSpot
def partOk (b : Book) (p : Part) : Bool := !decide (p.1.1 > b.2.2.2.2) && (wantOk p.1 && (knowsB b p.1 && p.1.2.2.2.1.all fun u => useIn (spotAt b u.1) p.1 u))
theorem at_of_knows {b : Book} {w : Want} (h : knowsB b w = true) {i : Nat} (hi : i < w.2.2.2.1.length) : 0 ≤ atB b w.2.2.2.1[i].1 ∧ atB b w.2.2.2.1[i].1 < b.2.1.length := by
  simp only [knowsB, Bool.and_eq_true] at h
  have h1 := List.all_eq_true.1 h.1 _ (List.getElem_mem hi)
  have h2 : 0 ≤ atB b w.2.2.2.1[i].1 := by
    have : ¬ atB b w.2.2.2.1[i].1 < 0 := by simpa using h1
    omega
  refine ⟨h2, ?_⟩
  have := idxB_lt (fun s : Spot => s.1 == w.2.2.2.1[i].1) b.2.1 0 h2
  unfold atB
  omega
theorem getD_mem {α : Type} {l : List α} {i : Nat} (h : i < l.length) (d : α) : l.getD i d ∈ l := by
  rw [List.getD_eq_getElem?_getD, List.getElem?_eq_getElem h]
  exact List.getElem_mem h
theorem spotAt_mem {b : Book} {n : Txt} (h : 0 ≤ atB b n) (h2 : atB b n < b.2.1.length) : spotAt b n ∈ b.2.1 := getD_mem (by omega) _
theorem l2PartOk {N : Nat} (hN : lim < N) {b : Book} {p : Part} (hb : smB b) (hp : smP p) : f_49 N b p = some (partOk b p) := by
  have hlim := lim_eq
  have h1 := hp.2.1.1
  unfold f_49 f_49b partOk
  rw [ob_eq (specWantOk hN hp)]
  simp only [ob_eq (l2Knows hN hb hp)]
  cases wantOk p.1 with
  | false => cases decide (p.1.1 > b.2.2.2.2) <;> rfl
  | true =>
    cases decide (p.1.1 > b.2.2.2.2) with
    | true => rfl
    | false =>
      cases hk : knowsB b p.1 with
      | false => rfl
      | true =>
        refine (lp_allI p.1.2.2.2.1 _ (fun _ u => useIn (spotAt b u.1) p.1 u) (some false) (some true) (fun g i hi => ?_) (fun g => ?_) N (by omega)).trans ?_
        · obtain ⟨h2, h3⟩ := at_of_knows hk hi
          unfold f_49_0r
          simp only [dlt hi, dge, gAt hi, cond_true, wrS (show i ≤ 1000000000000000000 by omega)]
          rw [ob_eq (l2Spot hN hb.2.1.1 _), decide_eq_true h2, decide_eq_true h3]
          simp only [cond_true, show b.2.1.getD (atB b p.1.2.2.2.1[i].1).toNat dSpot = spotAt b p.1.2.2.2.1[i].1 from rfl]
          rw [ob_eq (l2UseOk hN (hb.2.1.2 _ (spotAt_mem h2 h3)) hp _)]
          cases useIn (spotAt b p.1.2.2.2.1[i].1) p.1 p.1.2.2.2.1[i] <;> rfl
        · unfold f_49_0r
          rw [dnlt]; rfl
        · rw [allI_all]
          cases p.1.2.2.2.1.all fun u => useIn (spotAt b u.1) p.1 u <;> rfl
theorem implPartOk {N : Nat} (hN : lim < N) {b : Book} {p : Part} (hb : smB b) (hp : smP p) (hm : ∀ s ∈ b.2.1, 0 ≤ s.2.2.2.1) : f_12 N b p = some (partOk b p) := by
  have hlim := lim_eq
  have h1 := hp.2.1.1
  unfold f_12 f_12b partOk
  cases decide (p.1.1 > b.2.2.2.2) with
  | true => rfl
  | false =>
    simp only [cond_false, Bool.not_false, Bool.true_and, ob_eq (implWantOk hN hp), ob_eq (implKnows hN hb hp)]
    cases wantOk p.1 with
    | false => rfl
    | true =>
      cases hk : knowsB b p.1 with
      | false => rfl
      | true =>
        refine (lp_allI p.1.2.2.2.1 _ (fun _ u => useIn (spotAt b u.1) p.1 u) (some false) (some true) (fun g i hi => ?_) (fun g => ?_) N (by omega)).trans ?_
        · obtain ⟨h2, h3⟩ := at_of_knows hk hi
          have hmem := spotAt_mem h2 h3
          have hmost := hm _ hmem
          unfold f_12_0r
          simp only [dlt hi, dge, gAt hi, cond_true, wrS (show i ≤ 1000000000000000000 by omega)]
          rw [ob_eq (implAt hN hb.2.1.1 _), decide_eq_true h2, decide_eq_true h3]
          simp only [cond_true]
          change (bif decide (IntKind.i64.wrap ((spotAt b p.1.2.2.2.1[i].1).2.2.1 + p.1.2.2.2.1[i].2.2) > (spotAt b p.1.2.2.2.1[i].1).2.2.2.1) then _ else _) = _
          simp only [show b.2.1.getD (atB b p.1.2.2.2.1[i].1).toNat dSpot = spotAt b p.1.2.2.2.1[i].1 from rfl]
          generalize spotAt b p.1.2.2.2.1[i].1 = s at hmem hmost ⊢
          generalize p.1.2.2.2.1[i] = u
          simp only [ob_eq (implWithin hN (hb.2.1.2 s hmem).2.1 hp.1.1), ob_eq (implWithin hN hp.1.1 (hb.2.1.2 s hmem).2.1), bne]
          have e1 : (s.2.2.2.1 == 0) = !decide (s.2.2.2.1 > 0) := by
            by_cases h : s.2.2.2.1 = 0
            · rw [h]; rfl
            · rw [decide_eq_true (by omega)]
              exact beq_eq_false_iff_ne.2 h
          have e2 : decide (IntKind.i64.wrap (s.2.2.1 + u.2.2) > s.2.2.2.1) = !decide (IntKind.i64.wrap (s.2.2.1 + u.2.2) ≤ s.2.2.2.1) := by
            by_cases h : IntKind.i64.wrap (s.2.2.1 + u.2.2) ≤ s.2.2.2.1
            · rw [decide_eq_true h, decide_eq_false (by omega)]; rfl
            · rw [decide_eq_false h, decide_eq_true (by omega)]; rfl
          rw [e1, e2]
          unfold useIn
          generalize (p.1.2.1 == 2) = x0
          generalize decide (s.2.2.2.1 > 0) = x1
          generalize (p.1.2.1 == 1) = x2
          generalize (u.2.1 == 2) = x3
          generalize (u.2.1 == 1) = x4
          generalize (s.2.2.2.2.all fun x => p.1.2.2.1.contains x) = x5
          generalize (p.1.2.2.1.all fun x => s.2.2.2.2.contains x) = x6
          generalize decide (IntKind.i64.wrap (s.2.2.1 + u.2.2) ≤ s.2.2.2.1) = x7
          generalize g ((i + 1 : Nat) : Int) = gg
          cases x7 <;> cases x0 <;> cases x1 <;> cases x2 <;> cases x3 <;> cases x4 <;> cases x5 <;> cases x6 <;> rfl
        · unfold f_12_0r
          rw [dnlt]; rfl
        · rw [allI_all]
          cases p.1.2.2.2.1.all fun u => useIn (spotAt b u.1) p.1 u <;> rfl
end Go.MC

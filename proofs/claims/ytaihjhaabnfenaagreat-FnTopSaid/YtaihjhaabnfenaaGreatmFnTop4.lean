/- Part 4 of the texts of the claim FnTop: an interpreter of the translated code over data, proved sound; the contracts of the functions; the same in plain words. -/
import Derived.Test.YtaihjhaabnfenaaGreatmFnTop2
import Derived.Test.YtaihjhaabnfenaaGreatmFnTop3
set_option linter.unusedVariables false
set_option linter.unusedSimpArgs false
set_option maxRecDepth 100000
namespace Go.MC
open Go.Proofs Go.MC.F
noncomputable section
abbrev kp : Dir := .keep
abbrev vv (t : Ty) (x : t.den) : AV := .w (.one (.v t x))
abbrev vb (n : Nat) : AV := .w (.one (.pb n 0))
abbrev va (n : Nat) : AV := .w (.one (.arr n))
def an_spec_l1Open : Nat → Option Ann := fun _ => none
noncomputable def fi_spec_l1Open : FI := ⟨Tryz.f50.results.toList, bodyOf Tryz.f50.body, Tryz.f50.ntmps, an_spec_l1Open⟩
theorem ok_spec_l1Open : FnOK Tryz.prog 50 fi_spec_l1Open := ⟨⟨Tryz.f50, Tryz.func50, by kernel_rfl, rfl, rfl, by kernel_rfl⟩, by kernel_rfl⟩
def an_f_51 : Nat → Option Ann := fun _ => none
noncomputable def fi_f_51 : FI := ⟨Tryz.f53.results.toList, bodyOf Tryz.f53.body, Tryz.f53.ntmps, an_f_51⟩
theorem ok_f_51 : FnOK Tryz.prog 53 fi_f_51 := ⟨⟨Tryz.f53, Tryz.func53, by kernel_rfl, rfl, rfl, by kernel_rfl⟩, by kernel_rfl⟩
def phiL_f_51 (N : Nat) : List (Nat × Summ) := []
def sg_f_51 : Summ := sigOf [.bx (.pair (.slice tByte) tInt), .d tInt false] true [.d tInt false]
theorem run_f_51 (N : Nat) (r : Rdr) (n : Int) : runST (ofDs [tInt, .pair (.slice tByte) tInt]) (tabOf tabL) (tabS (phiL_f_51 N)) inl0 N fi_f_51 sg_f_51 [⟨.pair (.slice tByte) tInt, r⟩, ⟨tInt, n⟩] = F.f_51 N r n := by kernel_rfl
def sm_f_51 (N : Nat) : Summ := summOf [.bx (.pair (.slice tByte) tInt), .d tInt false] true [.d tInt false] [tInt, .pair (.slice tByte) tInt] (F.f_51 N)
theorem con_f_51 (N : Nat) : Contract Tryz.prog 53 (sm_f_51 N) := con_of (N := N) tabOK mixed (callOK_list (l := phiL_f_51 N) trivial) (inl0_ok _) ok_f_51 (by decide) fun r n => run_f_51 N r n
def an_f_71 : Nat → Option Ann := fun _ => none
noncomputable def fi_f_71 : FI := ⟨Tryz.f128.results.toList, bodyOf Tryz.f128.body, Tryz.f128.ntmps, an_f_71⟩
theorem ok_f_71 : FnOK Tryz.prog 128 fi_f_71 := ⟨⟨Tryz.f128, Tryz.func128, by kernel_rfl, rfl, rfl, by kernel_rfl⟩, by kernel_rfl⟩
def phiL_f_71 (N : Nat) : List (Nat × Summ) := [(53, sm_f_51 N)]
def sg_f_71 : Summ := sigOf [.bx (.pair (.slice tByte) tInt), .d tTxts false] true [.d (.str) false]
theorem run_f_71 (N : Nat) (r : Rdr) (list : List Txt) : runST (ofDs [.str, .pair (.slice tByte) tInt]) (tabOf tabL) (tabS (phiL_f_71 N)) inl0 N fi_f_71 sg_f_71 [⟨.pair (.slice tByte) tInt, r⟩, ⟨tTxts, list⟩] = F.f_71 N r list := by kernel_rfl
def sm_f_71 (N : Nat) : Summ := summOf [.bx (.pair (.slice tByte) tInt), .d tTxts false] true [.d (.str) false] [.str, .pair (.slice tByte) tInt] (F.f_71 N)
theorem con_f_71 (N : Nat) : Contract Tryz.prog 128 (sm_f_71 N) := con_of (N := N) tabOK mixed (callOK_list (l := phiL_f_71 N) (allc rfl (con_f_51 N) trivial)) (inl0_ok _) ok_f_71 (by decide) fun r list => run_f_71 N r list
def an_f_91 : Nat → Option Ann
 | 0 => some ⟨⟨[(0, kp), (2, kp), (3, kp), (4, .own 700004 9 Ty.str), (5, kp)], [(500000, [kp, kp]), (2, [kp, kp, kp, kp, kp]), (3, [Dir.frz tFoe, Dir.dow 1000301 34 [9] tSpot, kp, kp, kp])], []⟩, [(0, ⟨[(0, kp), (2, kp), (3, kp)], [(500000, [kp, kp]), (2, [kp, kp, kp, kp, kp]), (3, [Dir.frz tFoe, Dir.dow 1000301 34 [9] tSpot, kp, kp, kp])], []⟩)], ⟨[], [], []⟩⟩
 | 2 => some ⟨⟨[(0, kp), (2, kp), (3, kp), (7, .own 700007 9 Ty.str), (8, kp)], [(500000, [kp, kp]), (2, [kp, kp, kp, kp, kp]), (3, [kp, Dir.dow 1000301 34 [9] tSpot, .own 1000302 9 Ty.str, kp, kp])], []⟩, [(2, ⟨[(2, kp), (3, kp)], [(500000, [kp, kp]), (2, [kp, kp, kp, kp, kp]), (3, [kp, Dir.dow 1000301 34 [9] tSpot, .own 1000302 9 Ty.str, kp, kp])], []⟩)], ⟨[], [], []⟩⟩
 | _ => none
noncomputable def fi_f_91 : FI := ⟨Tryz.f51.results.toList, bodyOf Tryz.f51.body, Tryz.f51.ntmps, an_f_91⟩
theorem ok_f_91 : FnOK Tryz.prog 51 fi_f_91 := ⟨⟨Tryz.f51, Tryz.func51, by kernel_rfl, rfl, rfl, by kernel_rfl⟩, by kernel_rfl⟩
def phiL_f_91 (N : Nat) : List (Nat × Summ) := [(53, sm_f_51 N), (128, sm_f_71 N)]
def sg_f_91 : Summ := sigOf [.bx (.pair (.slice tByte) tInt)] true [.d tBook true]
def S_f_91_2 (t2c4 : Int) (b3c0 : List Foe) (b3c4 : Int) (b3c1a : List Spot) (valves7a : List Txt) (i8 : Int) (rpc0_1 : List Int) (rpc1_1 : Int) (b3c2a : List Txt) : St := ⟨[(0, vb 500000), (2, vb 2), (3, vb 3), (7, va 700007), (8, vv tInt i8)], [(500000, .box [.v tByte.slice rpc0_1, .v tInt rpc1_1]), (2, .box [.emp, .emp, .emp, .emp, .v tInt t2c4]), (3, .box [.v tFoe.slice b3c0, .arr 1000301, .arr 1000302, .emp, .v tInt b3c4]), (700007, .arr 9 Ty.str valves7a), (1000301, .arr 34 tSpot b3c1a (Dp.yes [9])), (1000302, .arr 9 Ty.str b3c2a)]⟩
def S_f_91_0 (t2c4 : Int) (b3c0 : List Foe) (b3c4 : Int) (names4a : List Txt) (i5 : Int) (rpc0 : List Int) (rpc1 : Int) (b3c1a : List Spot) : St := ⟨[(0, vb 500000), (2, vb 2), (3, vb 3), (4, va 700004), (5, vv tInt i5)], [(500000, .box [.v tByte.slice rpc0, .v tInt rpc1]), (2, .box [.emp, .emp, .emp, .emp, .v tInt t2c4]), (3, .box [.v tFoe.slice b3c0, .arr 1000301, .emp, .emp, .v tInt b3c4]), (700004, .arr 9 Ty.str names4a), (1000301, .arr 34 tSpot b3c1a (Dp.yes [9]))]⟩
noncomputable def E_f_91 (N : Nat) : Env := envOf (tabOf tabL) (tabS (phiL_f_91 N)) inl0 N fi_f_91 [500000]
noncomputable def K_f_91 := (kFun (tabOf tabL) fi_f_91.res (kT (ofDs [tBook, .pair (.slice tByte) tInt]) sg_f_91 [(500000, .bx (.pair (.slice tByte) tInt))]))
noncomputable def its_f_91_2 (N : Nat) (n : Nat) : St → Option (Book × Rdr) := fun S' => iter [500000] (annAt fi_f_91 2) (code (E_f_91 N) (lpIn fi_f_91.body 0 2) 2) n S' (contOf (E_f_91 N) fi_f_91.body 0 2 K_f_91)
noncomputable def it_f_91_2 (N : Nat) (t2c4 : Int) (b3c0 : List Foe) (b3c4 : Int) (b3c1a : List Spot) (valves7a : List Txt) (n : Nat) : Int → (List Int) → Int → (List Txt) → Option (Book × Rdr) := fun i8 rpc0_1 rpc1_1 b3c2a => its_f_91_2 N n (S_f_91_2 t2c4 b3c0 b3c4 b3c1a valves7a i8 rpc0_1 rpc1_1 b3c2a)
theorem fe_f_91_2 (N : Nat) : it_f_91_2 N = f_91_2 N := funext fun t2c4 => funext fun b3c0 => funext fun b3c4 => funext fun b3c1a => funext fun valves7a => funext (lp_all (by kernel_rfl) fun n => by
 show _ = f_91_2r N t2c4 b3c0 b3c4 b3c1a valves7a (it_f_91_2 N t2c4 b3c0 b3c4 b3c1a valves7a n)
 kernel_rfl)
noncomputable def its_f_91_0 (N : Nat) (n : Nat) : St → Option (Book × Rdr) := fun S' => iter [500000] (annAt fi_f_91 0) (code (E_f_91 N) (lpIn fi_f_91.body 0 0) 0) n S' (contOf (E_f_91 N) fi_f_91.body 0 0 K_f_91)
noncomputable def it_f_91_0 (N : Nat) (t2c4 : Int) (b3c0 : List Foe) (b3c4 : Int) (names4a : List Txt) (n : Nat) : Int → (List Int) → Int → (List Spot) → Option (Book × Rdr) := fun i5 rpc0 rpc1 b3c1a => its_f_91_0 N n (S_f_91_0 t2c4 b3c0 b3c4 names4a i5 rpc0 rpc1 b3c1a)
theorem fe_f_91_0 (N : Nat) : it_f_91_0 N = f_91_0 N := funext fun t2c4 => funext fun b3c0 => funext fun b3c4 => funext fun names4a => funext (lp_all (by kernel_rfl) fun n => by
 show _ = f_91_0r N (f_91_2 N) t2c4 b3c0 b3c4 names4a (it_f_91_0 N t2c4 b3c0 b3c4 names4a n)
 rw [show f_91_2 N = it_f_91_2 N from (fe_f_91_2 N).symm]
 kernel_rfl)
theorem run_f_91 (N : Nat) (r : Rdr) : runST (ofDs [tBook, .pair (.slice tByte) tInt]) (tabOf tabL) (tabS (phiL_f_91 N)) inl0 N fi_f_91 sg_f_91 [⟨.pair (.slice tByte) tInt, r⟩] = F.f_91 N r := by
 show _ = F.f_91b N (F.f_91_0 N) r
 rw [← fe_f_91_0 N]
 kernel_rfl
def sm_f_91 (N : Nat) : Summ := summOf [.bx (.pair (.slice tByte) tInt)] true [.d tBook true] [tBook, .pair (.slice tByte) tInt] (F.f_91 N)
theorem con_f_91 (N : Nat) : Contract Tryz.prog 51 (sm_f_91 N) := con_of (N := N) tabOK mixed (callOK_list (l := phiL_f_91 N) (allc rfl (con_f_51 N) (allc rfl (con_f_71 N) trivial))) (inl0_ok _) ok_f_91 (by decide) fun r => run_f_91 N r
def an_f_70 : Nat → Option Ann := fun _ => none
noncomputable def fi_f_70 : FI := ⟨Tryz.f129.results.toList, bodyOf Tryz.f129.body, Tryz.f129.ntmps, an_f_70⟩
theorem ok_f_70 : FnOK Tryz.prog 129 fi_f_70 := ⟨⟨Tryz.f129, Tryz.func129, by kernel_rfl, rfl, rfl, by kernel_rfl⟩, by kernel_rfl⟩
def phiL_f_70 (N : Nat) : List (Nat × Summ) := []
def sg_f_70 : Summ := sigOf [.d tTxts false] false [.own tTxts false [(9, none)]]
theorem run_f_70 (N : Nat) (list : List Txt) : runST (ofDs [tTxts]) (tabOf tabL) (tabS (phiL_f_70 N)) inl0 N fi_f_70 sg_f_70 [⟨tTxts, list⟩] = F.f_70 N list := by kernel_rfl
def sm_f_70 (N : Nat) : Summ := summOf [.d tTxts false] false [.own tTxts false [(9, none)]] [tTxts] (F.f_70 N)
theorem con_f_70 (N : Nat) : Contract Tryz.prog 129 (sm_f_70 N) := con_of (N := N) tabOK mixed (callOK_list (l := phiL_f_70 N) trivial) (inl0_ok _) ok_f_70 (by decide) fun list => run_f_70 N list
def an_f_85 : Nat → Option Ann := fun _ => none
noncomputable def fi_f_85 : FI := ⟨Tryz.f130.results.toList, bodyOf Tryz.f130.body, Tryz.f130.ntmps, an_f_85⟩
theorem ok_f_85 : FnOK Tryz.prog 130 fi_f_85 := ⟨⟨Tryz.f130, Tryz.func130, by kernel_rfl, rfl, rfl, by kernel_rfl⟩, by kernel_rfl⟩
def phiL_f_85 (N : Nat) : List (Nat × Summ) := [(129, sm_f_70 N)]
def sg_f_85 : Summ := sigOf [.d tWant true] false [.own tWant true [(9, none), (82, none), (9, none), (9, none)]]
theorem run_f_85 (N : Nat) (w : Want) : runST (ofDs [tWant]) (tabOf tabL) (tabS (phiL_f_85 N)) inl0 N fi_f_85 sg_f_85 [⟨tWant, w⟩] = F.f_85 N w := by kernel_rfl
def sm_f_85 (N : Nat) : Summ := summOf [.d tWant true] false [.own tWant true [(9, none), (82, none), (9, none), (9, none)]] [tWant] (F.f_85 N)
theorem con_f_85 (N : Nat) : Contract Tryz.prog 130 (sm_f_85 N) := con_of (N := N) tabOK mixed (callOK_list (l := phiL_f_85 N) (allc rfl (con_f_70 N) trivial)) (inl0_ok _) ok_f_85 (by decide) fun w => run_f_85 N w
def an_f_86 : Nat → Option Ann
 | 0 => some ⟨⟨[(1, kp), (2, kp), (3, kp), (4, kp)], [(1, [kp, kp, kp, kp, kp]), (2, [kp, kp, kp, kp, kp]), (3, [.own 1000300 106 tFoe, Dir.dow 1000301 34 [9] tSpot, .own 1000302 9 Ty.str, kp, kp])], []⟩, [(0, ⟨[(1, kp), (2, kp), (3, kp)], [(1, [kp, kp, kp, kp, kp]), (2, [kp, kp, kp, kp, kp]), (3, [.own 1000300 106 tFoe, Dir.dow 1000301 34 [9] tSpot, .own 1000302 9 Ty.str, kp, kp])], []⟩)], ⟨[], [], []⟩⟩
 | 2 => some ⟨⟨[(1, kp), (2, kp), (3, kp), (6, kp)], [(1, [kp, kp, kp, kp, kp]), (2, [kp, kp, kp, kp, kp]), (3, [.own 1000300 106 tFoe, Dir.dow 1000301 34 [9] tSpot, .own 1000302 9 Ty.str, Dir.dow 1000303 94 [9, 82, 9, 9] tPart, kp])], []⟩, [(2, ⟨[(2, kp), (3, kp)], [(2, [kp, kp, kp, kp, kp]), (3, [.own 1000300 106 tFoe, Dir.dow 1000301 34 [9] tSpot, .own 1000302 9 Ty.str, Dir.dow 1000303 94 [9, 82, 9, 9] tPart, kp])], []⟩)], ⟨[], [], []⟩⟩
 | _ => none
noncomputable def fi_f_86 : FI := ⟨Tryz.f52.results.toList, bodyOf Tryz.f52.body, Tryz.f52.ntmps, an_f_86⟩
theorem ok_f_86 : FnOK Tryz.prog 52 fi_f_86 := ⟨⟨Tryz.f52, Tryz.func52, by kernel_rfl, rfl, rfl, by kernel_rfl⟩, by kernel_rfl⟩
def phiL_f_86 (N : Nat) : List (Nat × Summ) := [(129, sm_f_70 N), (130, sm_f_85 N)]
def sg_f_86 : Summ := sigOf [.d tBook true] false [.own tBook true [(106, none), (34, (some [9])), (9, none), (94, (some [9, 82, 9, 9]))]]
def S_f_86_2 (b : Book) (r : List Txt) (t2c4 : Int) (x3c0a : List Foe) (x3c1a : List Spot) (i6 : Int) (x3c3a : List Part) : St := ⟨[(1, vb 1), (2, vb 2), (3, vb 3), (6, vv tInt i6)], [(1, .box [.v tFoe.slice b.1, .v tSpot.slice b.2.1, .v tTxts b.2.2.1, .v tPart.slice b.2.2.2.1, .v tInt b.2.2.2.2]), (2, .box [.emp, .emp, .emp, .emp, .v tInt t2c4]), (3, .box [.arr 1000300, .arr 1000301, .arr 1000302, .arr 1000303, .v tInt b.2.2.2.2]), (1000300, .arr 106 tFoe x3c0a), (1000301, .arr 34 tSpot x3c1a (Dp.yes [9])), (1000302, .arr 9 Ty.str r), (1000303, .arr 94 tPart x3c3a (Dp.yes [9, 82, 9, 9]))]⟩
def S_f_86_0 (b : Book) (r : List Txt) (t2c4 : Int) (x3c0a : List Foe) (i4 : Int) (x3c1a : List Spot) : St := ⟨[(1, vb 1), (2, vb 2), (3, vb 3), (4, vv tInt i4)], [(1, .box [.v tFoe.slice b.1, .v tSpot.slice b.2.1, .v tTxts b.2.2.1, .v tPart.slice b.2.2.2.1, .v tInt b.2.2.2.2]), (2, .box [.emp, .emp, .emp, .emp, .v tInt t2c4]), (3, .box [.arr 1000300, .arr 1000301, .arr 1000302, .emp, .v tInt b.2.2.2.2]), (1000300, .arr 106 tFoe x3c0a), (1000301, .arr 34 tSpot x3c1a (Dp.yes [9])), (1000302, .arr 9 Ty.str r)]⟩
noncomputable def E_f_86 (N : Nat) : Env := envOf (tabOf tabL) (tabS (phiL_f_86 N)) inl0 N fi_f_86 []
noncomputable def K_f_86 := (kFun (tabOf tabL) fi_f_86.res (kT (ofDs [tBook]) sg_f_86 []))
noncomputable def its_f_86_2 (N : Nat) (n : Nat) : St → Option Book := fun S' => iter [] (annAt fi_f_86 2) (code (E_f_86 N) (lpIn fi_f_86.body 0 2) 2) n S' (contOf (E_f_86 N) fi_f_86.body 0 2 K_f_86)
noncomputable def it_f_86_2 (N : Nat) (b : Book) (r : List Txt) (t2c4 : Int) (x3c0a : List Foe) (x3c1a : List Spot) (n : Nat) : Int → (List Part) → Option Book := fun i6 x3c3a => its_f_86_2 N n (S_f_86_2 b r t2c4 x3c0a x3c1a i6 x3c3a)
theorem fe_f_86_2 (N : Nat) : it_f_86_2 N = f_86_2 N := funext fun b => funext fun r => funext fun t2c4 => funext fun x3c0a => funext fun x3c1a => funext (lp_all (by kernel_rfl) fun n => by
 show _ = f_86_2r N b r t2c4 x3c0a x3c1a (it_f_86_2 N b r t2c4 x3c0a x3c1a n)
 kernel_rfl)
noncomputable def its_f_86_0 (N : Nat) (n : Nat) : St → Option Book := fun S' => iter [] (annAt fi_f_86 0) (code (E_f_86 N) (lpIn fi_f_86.body 0 0) 0) n S' (contOf (E_f_86 N) fi_f_86.body 0 0 K_f_86)
noncomputable def it_f_86_0 (N : Nat) (b : Book) (r : List Txt) (t2c4 : Int) (x3c0a : List Foe) (n : Nat) : Int → (List Spot) → Option Book := fun i4 x3c1a => its_f_86_0 N n (S_f_86_0 b r t2c4 x3c0a i4 x3c1a)
theorem fe_f_86_0 (N : Nat) : it_f_86_0 N = f_86_0 N := funext fun b => funext fun r => funext fun t2c4 => funext fun x3c0a => funext (lp_all (by kernel_rfl) fun n => by
 show _ = f_86_0r N (f_86_2 N) b r t2c4 x3c0a (it_f_86_0 N b r t2c4 x3c0a n)
 rw [show f_86_2 N = it_f_86_2 N from (fe_f_86_2 N).symm]
 kernel_rfl)
theorem run_f_86 (N : Nat) (b : Book) : runST (ofDs [tBook]) (tabOf tabL) (tabS (phiL_f_86 N)) inl0 N fi_f_86 sg_f_86 [⟨tBook, b⟩] = F.f_86 N b := by
 show _ = F.f_86b N (F.f_86_0 N) b
 rw [← fe_f_86_0 N]
 kernel_rfl
def sm_f_86 (N : Nat) : Summ := summOf [.d tBook true] false [.own tBook true [(106, none), (34, (some [9])), (9, none), (94, (some [9, 82, 9, 9]))]] [tBook] (F.f_86 N)
theorem con_f_86 (N : Nat) : Contract Tryz.prog 52 (sm_f_86 N) := con_of (N := N) tabOK mixed (callOK_list (l := phiL_f_86 N) (allc rfl (con_f_70 N) (allc rfl (con_f_85 N) trivial))) (inl0_ok _) ok_f_86 (by decide) fun b => run_f_86 N b
def an_f_119 : Nat → Option Ann := fun _ => none
noncomputable def fi_f_119 : FI := ⟨Tryz.f103.results.toList, bodyOf Tryz.f103.body, Tryz.f103.ntmps, an_f_119⟩
theorem ok_f_119 : FnOK Tryz.prog 103 fi_f_119 := ⟨⟨Tryz.f103, Tryz.func103, by kernel_rfl, rfl, rfl, by kernel_rfl⟩, by kernel_rfl⟩
def phiL_f_119 (N : Nat) : List (Nat × Summ) := [(53, sm_f_51 N)]
def sg_f_119 : Summ := sigOf [.bx (.pair (.slice tByte) tInt), .d tBook true] true [.d tInt false]
def smG_f_119_f_51 (g_f_51 : Rdr → (Int) → Option ((Int) × Rdr)) : Summ := summOf [.bx (.pair (.slice tByte) tInt), .d tInt false] true [.d tInt false] [tInt, .pair (.slice tByte) tInt] g_f_51
def phiG_f_119 (g_f_51 : Rdr → (Int) → Option ((Int) × Rdr)) : List (Nat × Summ) := [(53, smG_f_119_f_51 g_f_51)]
theorem runG_f_119 (N : Nat) (g_f_51 : Rdr → (Int) → Option ((Int) × Rdr)) (r : Rdr) (b : Book) : runST (ofDs [tInt, .pair (.slice tByte) tInt]) (tabOf tabL) (tabS (phiG_f_119 g_f_51)) inl0 N fi_f_119 sg_f_119 [⟨.pair (.slice tByte) tInt, r⟩, ⟨tBook, b⟩] = F.f_119G g_f_51 r b := by kernel_rfl
theorem run_f_119 (N : Nat) (r : Rdr) (b : Book) : runST (ofDs [tInt, .pair (.slice tByte) tInt]) (tabOf tabL) (tabS (phiL_f_119 N)) inl0 N fi_f_119 sg_f_119 [⟨.pair (.slice tByte) tInt, r⟩, ⟨tBook, b⟩] = F.f_119 N r b := runG_f_119 N (F.f_51 N) r b
def sm_f_119 (N : Nat) : Summ := summOf [.bx (.pair (.slice tByte) tInt), .d tBook true] true [.d tInt false] [tInt, .pair (.slice tByte) tInt] (F.f_119 N)
theorem con_f_119 (N : Nat) : Contract Tryz.prog 103 (sm_f_119 N) := con_of (N := N) tabOK mixed (callOK_list (l := phiL_f_119 N) (allc rfl (con_f_51 N) trivial)) (inl0_ok _) ok_f_119 (by decide) fun r b => run_f_119 N r b
def an_f_88 : Nat → Option Ann
 | 0 => some ⟨⟨[(1, kp), (2, kp), (5, kp)], [(2, [kp, kp, kp, kp, kp])], []⟩, [(0, ⟨[], [], []⟩)], ⟨[(4, kp)], [], []⟩⟩
 | _ => none
noncomputable def fi_f_88 : FI := ⟨Tryz.f58.results.toList, bodyOf Tryz.f58.body, Tryz.f58.ntmps, an_f_88⟩
theorem ok_f_88 : FnOK Tryz.prog 58 fi_f_88 := ⟨⟨Tryz.f58, Tryz.func58, by kernel_rfl, rfl, rfl, by kernel_rfl⟩, by kernel_rfl⟩
def phiL_f_88 (N : Nat) : List (Nat × Summ) := []
def sg_f_88 : Summ := sigOf [.d tBook true, .d tInt false] false [.d tInt false]
def S_f_88_0 (b : Book) (number : Int) (i5 : Int) : St := ⟨[(1, vv tInt number), (2, vb 2), (5, vv tInt i5)], [(2, .box [.v tFoe.slice b.1, .v tSpot.slice b.2.1, .v tTxts b.2.2.1, .v tPart.slice b.2.2.2.1, .v tInt b.2.2.2.2])]⟩
noncomputable def E_f_88 (N : Nat) : Env := envOf (tabOf tabL) (tabS (phiL_f_88 N)) inl0 N fi_f_88 []
noncomputable def K_f_88 := (kFun (tabOf tabL) fi_f_88.res (kT (ofDs [tInt]) sg_f_88 []))
noncomputable def its_f_88_0 (N : Nat) (n : Nat) : St → Option Int := fun S' => iter [] (annAt fi_f_88 0) (code (E_f_88 N) (lpIn fi_f_88.body 0 0) 0) n S' (contOf (E_f_88 N) fi_f_88.body 0 0 K_f_88)
noncomputable def it_f_88_0 (N : Nat) (b : Book) (number : Int) (n : Nat) : Int → Option Int := fun i5 => its_f_88_0 N n (S_f_88_0 b number i5)
theorem fe_f_88_0 (N : Nat) : it_f_88_0 N = f_88_0 N := funext fun b => funext fun number => funext (lp_all (by kernel_rfl) fun n => by
 show _ = f_88_0r N b number (it_f_88_0 N b number n)
 kernel_rfl)
theorem run_f_88 (N : Nat) (b : Book) (number : Int) : runST (ofDs [tInt]) (tabOf tabL) (tabS (phiL_f_88 N)) inl0 N fi_f_88 sg_f_88 [⟨tBook, b⟩, ⟨tInt, number⟩] = F.f_88 N b number := by
 show _ = F.f_88b N (F.f_88_0 N) b number
 rw [← fe_f_88_0 N]
 kernel_rfl
def sm_f_88 (N : Nat) : Summ := summOf [.d tBook true, .d tInt false] false [.d tInt false] [tInt] (F.f_88 N)
theorem con_f_88 (N : Nat) : Contract Tryz.prog 58 (sm_f_88 N) := con_of (N := N) tabOK mixed (callOK_list (l := phiL_f_88 N) trivial) (inl0_ok _) ok_f_88 (by decide) fun b number => run_f_88 N b number
def an_f_78 : Nat → Option Ann
 | 0 => some ⟨⟨[(0, kp), (4, kp), (7, kp), (8, kp), (9, kp)], [(500000, [kp, kp]), (4, [kp, kp, kp, kp, kp])], []⟩, [(0, ⟨[(0, kp), (8, kp)], [(500000, [kp, kp])], []⟩)], ⟨[], [], []⟩⟩
 | _ => none
noncomputable def fi_f_78 : FI := ⟨Tryz.f131.results.toList, bodyOf Tryz.f131.body, Tryz.f131.ntmps, an_f_78⟩
theorem ok_f_78 : FnOK Tryz.prog 131 fi_f_78 := ⟨⟨Tryz.f131, Tryz.func131, by kernel_rfl, rfl, rfl, by kernel_rfl⟩, by kernel_rfl⟩
def phiL_f_78 (N : Nat) : List (Nat × Summ) := [(58, sm_f_88 N), (53, sm_f_51 N)]
def sg_f_78 : Summ := sigOf [.bx (.pair (.slice tByte) tInt), .d tBook true, .d tInt false] true [.d tInt false]
def S_f_78_0 (r : Rdr) (b : Book) (r_1 : Int) (most8 : Int) (i9 : Int) : St := ⟨[(0, vb 500000), (4, vb 4), (7, vv tInt r_1), (8, vv tInt most8), (9, vv tInt i9)], [(500000, .box [.v tByte.slice r.1, .v tInt r.2]), (4, .box [.v tFoe.slice b.1, .v tSpot.slice b.2.1, .v tTxts b.2.2.1, .v tPart.slice b.2.2.2.1, .v tInt b.2.2.2.2])]⟩
noncomputable def E_f_78 (N : Nat) : Env := envOf (tabOf tabL) (tabS (phiL_f_78 N)) inl0 N fi_f_78 [500000]
noncomputable def K_f_78 := (kFun (tabOf tabL) fi_f_78.res (kT (ofDs [tInt, .pair (.slice tByte) tInt]) sg_f_78 [(500000, .bx (.pair (.slice tByte) tInt))]))
noncomputable def its_f_78_0 (N : Nat) (n : Nat) : St → Option (Int × Rdr) := fun S' => iter [500000] (annAt fi_f_78 0) (code (E_f_78 N) (lpIn fi_f_78.body 0 0) 0) n S' (contOf (E_f_78 N) fi_f_78.body 0 0 K_f_78)
noncomputable def it_f_78_0 (N : Nat) (r : Rdr) (b : Book) (r_1 : Int) (n : Nat) : Int → Int → Option (Int × Rdr) := fun most8 i9 => its_f_78_0 N n (S_f_78_0 r b r_1 most8 i9)
theorem fe_f_78_0 (N : Nat) : it_f_78_0 N = f_78_0 N := funext fun r => funext fun b => funext fun r_1 => funext (lp_all (by kernel_rfl) fun n => by
 show _ = f_78_0r N r b r_1 (it_f_78_0 N r b r_1 n)
 kernel_rfl)
theorem run_f_78 (N : Nat) (r : Rdr) (b : Book) (number : Int) : runST (ofDs [tInt, .pair (.slice tByte) tInt]) (tabOf tabL) (tabS (phiL_f_78 N)) inl0 N fi_f_78 sg_f_78 [⟨.pair (.slice tByte) tInt, r⟩, ⟨tBook, b⟩, ⟨tInt, number⟩] = F.f_78 N r b number := by
 show _ = F.f_78b N (F.f_78_0 N) r b number
 rw [← fe_f_78_0 N]
 kernel_rfl
def sm_f_78 (N : Nat) : Summ := summOf [.bx (.pair (.slice tByte) tInt), .d tBook true, .d tInt false] true [.d tInt false] [tInt, .pair (.slice tByte) tInt] (F.f_78 N)
theorem con_f_78 (N : Nat) : Contract Tryz.prog 131 (sm_f_78 N) := con_of (N := N) tabOK mixed (callOK_list (l := phiL_f_78 N) (allc rfl (con_f_88 N) (allc rfl (con_f_51 N) trivial))) (inl0_ok _) ok_f_78 (by decide) fun r b number => run_f_78 N r b number
def an_f_64 : Nat → Option Ann
 | 0 => some ⟨⟨[(0, kp), (1, kp), (5, kp)], [], []⟩, [(0, ⟨[(0, kp), (1, kp), (5, kp)], [], []⟩)], ⟨[], [], []⟩⟩
 | _ => none
noncomputable def fi_f_64 : FI := ⟨Tryz.f142.results.toList, bodyOf Tryz.f142.body, Tryz.f142.ntmps, an_f_64⟩
theorem ok_f_64 : FnOK Tryz.prog 142 fi_f_64 := ⟨⟨Tryz.f142, Tryz.func142, by kernel_rfl, rfl, rfl, by kernel_rfl⟩, by kernel_rfl⟩
def phiL_f_64 (N : Nat) : List (Nat × Summ) := []
def sg_f_64 : Summ := sigOf [.d tTxts false, .d (.str) false] true [.d tTxts false]
def S_f_64_0 (list : List Txt) (name : Txt) (k5 : Int) : St := ⟨[(0, vv tTxts list), (1, vv Ty.str name), (5, vv tInt k5)], []⟩
noncomputable def E_f_64 (N : Nat) : Env := envOf (tabOf tabL) (tabS (phiL_f_64 N)) inl0 N fi_f_64 []
noncomputable def K_f_64 := (kFun (tabOf tabL) fi_f_64.res (kT (ofDs [tTxts]) sg_f_64 []))
noncomputable def its_f_64_0 (N : Nat) (n : Nat) : St → Option (List Txt) := fun S' => iter [] (annAt fi_f_64 0) (code (E_f_64 N) (lpIn fi_f_64.body 0 0) 0) n S' (contOf (E_f_64 N) fi_f_64.body 0 0 K_f_64)
noncomputable def it_f_64_0 (N : Nat) (list : List Txt) (name : Txt) (n : Nat) : Int → Option (List Txt) := fun k5 => its_f_64_0 N n (S_f_64_0 list name k5)
theorem fe_f_64_0 (N : Nat) : it_f_64_0 N = f_64_0 N := funext fun list => funext fun name => funext (lp_all (by kernel_rfl) fun n => by
 show _ = f_64_0r N list name (it_f_64_0 N list name n)
 kernel_rfl)
theorem run_f_64 (N : Nat) (list : List Txt) (name : Txt) : runST (ofDs [tTxts]) (tabOf tabL) (tabS (phiL_f_64 N)) inl0 N fi_f_64 sg_f_64 [⟨tTxts, list⟩, ⟨.str, name⟩] = F.f_64 N list name := by
 show _ = F.f_64b N (F.f_64_0 N) list name
 rw [← fe_f_64_0 N]
 kernel_rfl
def sm_f_64 (N : Nat) : Summ := summOf [.d tTxts false, .d (.str) false] true [.d tTxts false] [tTxts] (F.f_64 N)
theorem con_f_64 (N : Nat) : Contract Tryz.prog 142 (sm_f_64 N) := con_of (N := N) tabOK mixed (callOK_list (l := phiL_f_64 N) trivial) (inl0_ok _) ok_f_64 (by decide) fun list name => run_f_64 N list name
def an_f_95 : Nat → Option Ann
 | 0 => some ⟨⟨[(0, kp), (1, kp), (2, kp), (7, .own 700007 9 Ty.str), (8, kp)], [(500000, [kp, kp])], []⟩, [(0, ⟨[(7, .own 700007 9 Ty.str)], [(500000, [kp, kp])], []⟩)], ⟨[], [], []⟩⟩
 | _ => none
noncomputable def fi_f_95 : FI := ⟨Tryz.f171.results.toList, bodyOf Tryz.f171.body, Tryz.f171.ntmps, an_f_95⟩
theorem ok_f_95 : FnOK Tryz.prog 171 fi_f_95 := ⟨⟨Tryz.f171, Tryz.func171, by kernel_rfl, rfl, rfl, by kernel_rfl⟩, by kernel_rfl⟩
def phiL_f_95 (N : Nat) : List (Nat × Summ) := [(53, sm_f_51 N)]
def sg_f_95 : Summ := sigOf [.bx (.pair (.slice tByte) tInt), .d tTxts false, .d tInt false] true [.own tTxts false [(9, none)]]
def S_f_95_0 (list : List Txt) (most : Int) (i8 : Int) (rpc0 : List Int) (rpc1 : Int) (out7a : List Txt) : St := ⟨[(0, vb 500000), (1, vv tTxts list), (2, vv tInt most), (7, va 700007), (8, vv tInt i8)], [(500000, .box [.v tByte.slice rpc0, .v tInt rpc1]), (700007, .arr 9 Ty.str out7a)]⟩
noncomputable def E_f_95 (N : Nat) : Env := envOf (tabOf tabL) (tabS (phiL_f_95 N)) inl0 N fi_f_95 [500000]
noncomputable def K_f_95 := (kFun (tabOf tabL) fi_f_95.res (kT (ofDs [tTxts, .pair (.slice tByte) tInt]) sg_f_95 [(500000, .bx (.pair (.slice tByte) tInt))]))
noncomputable def its_f_95_0 (N : Nat) (n : Nat) : St → Option (List Txt × Rdr) := fun S' => iter [500000] (annAt fi_f_95 0) (code (E_f_95 N) (lpIn fi_f_95.body 0 0) 0) n S' (contOf (E_f_95 N) fi_f_95.body 0 0 K_f_95)
noncomputable def it_f_95_0 (N : Nat) (list : List Txt) (most : Int) (n : Nat) : Int → (List Int) → Int → (List Txt) → Option (List Txt × Rdr) := fun i8 rpc0 rpc1 out7a => its_f_95_0 N n (S_f_95_0 list most i8 rpc0 rpc1 out7a)
theorem fe_f_95_0 (N : Nat) : it_f_95_0 N = f_95_0 N := funext fun list => funext fun most => funext (lp_all (by kernel_rfl) fun n => by
 show _ = f_95_0r N list most (it_f_95_0 N list most n)
 kernel_rfl)
theorem run_f_95 (N : Nat) (r : Rdr) (list : List Txt) (most : Int) : runST (ofDs [tTxts, .pair (.slice tByte) tInt]) (tabOf tabL) (tabS (phiL_f_95 N)) inl0 N fi_f_95 sg_f_95 [⟨.pair (.slice tByte) tInt, r⟩, ⟨tTxts, list⟩, ⟨tInt, most⟩] = F.f_95 N r list most := by
 show _ = F.f_95b N (F.f_95_0 N) r list most
 rw [← fe_f_95_0 N]
 kernel_rfl
def sm_f_95 (N : Nat) : Summ := summOf [.bx (.pair (.slice tByte) tInt), .d tTxts false, .d tInt false] true [.own tTxts false [(9, none)]] [tTxts, .pair (.slice tByte) tInt] (F.f_95 N)
theorem con_f_95 (N : Nat) : Contract Tryz.prog 171 (sm_f_95 N) := con_of (N := N) tabOK mixed (callOK_list (l := phiL_f_95 N) (allc rfl (con_f_51 N) trivial)) (inl0_ok _) ok_f_95 (by decide) fun r list most => run_f_95 N r list most
def an_f_109 : Nat → Option Ann
 | 0 => some ⟨⟨[(0, kp), (1, kp), (5, kp)], [], []⟩, [(0, ⟨[], [], []⟩)], ⟨[(4, kp)], [], []⟩⟩
 | _ => none
noncomputable def fi_f_109 : FI := ⟨Tryz.f102.results.toList, bodyOf Tryz.f102.body, Tryz.f102.ntmps, an_f_109⟩
theorem ok_f_109 : FnOK Tryz.prog 102 fi_f_109 := ⟨⟨Tryz.f102, Tryz.func102, by kernel_rfl, rfl, rfl, by kernel_rfl⟩, by kernel_rfl⟩
def phiL_f_109 (N : Nat) : List (Nat × Summ) := []
def sg_f_109 : Summ := sigOf [.d tTxts false, .d (.str) false] false [.d (.bool) false]
def S_f_109_0 (list : List Txt) (name : Txt) (i5 : Int) : St := ⟨[(0, vv tTxts list), (1, vv Ty.str name), (5, vv tInt i5)], []⟩
noncomputable def E_f_109 (N : Nat) : Env := envOf (tabOf tabL) (tabS (phiL_f_109 N)) inl0 N fi_f_109 []
noncomputable def K_f_109 := (kFun (tabOf tabL) fi_f_109.res (kT (ofDs [.bool]) sg_f_109 []))
noncomputable def its_f_109_0 (N : Nat) (n : Nat) : St → Option Bool := fun S' => iter [] (annAt fi_f_109 0) (code (E_f_109 N) (lpIn fi_f_109.body 0 0) 0) n S' (contOf (E_f_109 N) fi_f_109.body 0 0 K_f_109)
noncomputable def it_f_109_0 (N : Nat) (list : List Txt) (name : Txt) (n : Nat) : Int → Option Bool := fun i5 => its_f_109_0 N n (S_f_109_0 list name i5)
theorem fe_f_109_0 (N : Nat) : it_f_109_0 N = f_109_0 N := funext fun list => funext fun name => funext (lp_all (by kernel_rfl) fun n => by
 show _ = f_109_0r N list name (it_f_109_0 N list name n)
 kernel_rfl)
theorem run_f_109 (N : Nat) (list : List Txt) (name : Txt) : runST (ofDs [.bool]) (tabOf tabL) (tabS (phiL_f_109 N)) inl0 N fi_f_109 sg_f_109 [⟨tTxts, list⟩, ⟨.str, name⟩] = F.f_109 N list name := by
 show _ = F.f_109b N (F.f_109_0 N) list name
 rw [← fe_f_109_0 N]
 kernel_rfl
def sm_f_109 (N : Nat) : Summ := summOf [.d tTxts false, .d (.str) false] false [.d (.bool) false] [.bool] (F.f_109 N)
theorem con_f_109 (N : Nat) : Contract Tryz.prog 102 (sm_f_109 N) := con_of (N := N) tabOK mixed (callOK_list (l := phiL_f_109 N) trivial) (inl0_ok _) ok_f_109 (by decide) fun list name => run_f_109 N list name
def an_f_94 : Nat → Option Ann
 | 0 => some ⟨⟨[(0, kp), (4, kp), (6, kp), (7, kp), (8, kp)], [(500000, [kp, kp]), (4, [kp, kp, kp, kp, kp]), (6, [kp, kp, kp, kp, kp, kp]), (7, [kp, kp, Dir.frz Ty.str, kp, kp, kp])], []⟩, [(0, ⟨[(0, kp), (4, kp), (6, kp), (7, kp)], [(500000, [kp, kp]), (4, [kp, kp, kp, kp, kp]), (6, [kp, kp, kp, kp, kp, kp]), (7, [kp, kp, Dir.frz Ty.str, kp, kp, kp])], []⟩)], ⟨[], [], []⟩⟩
 | 2 => some ⟨⟨[(0, kp), (4, kp), (6, kp), (7, kp), (8, kp), (9, kp)], [(500000, [kp, kp]), (4, [kp, kp, kp, kp, kp]), (6, [kp, kp, kp, kp, kp, kp]), (7, [kp, kp, Dir.frz Ty.str, kp, kp, kp])], []⟩, [(2, ⟨[(0, kp), (4, kp), (6, kp), (7, kp), (8, kp)], [(500000, [kp, kp]), (4, [kp, kp, kp, kp, kp]), (6, [kp, kp, kp, kp, kp, kp]), (7, [kp, kp, Dir.frz Ty.str, kp, kp, kp])], []⟩)], ⟨[], [], []⟩⟩
 | 4 => some ⟨⟨[(0, kp), (4, kp), (6, kp), (7, kp), (10, kp)], [(500000, [kp, kp]), (4, [kp, kp, kp, kp, kp]), (6, [kp, kp, kp, kp, kp, kp]), (7, [kp, kp, Dir.frz Ty.str, .own 1000703 82 tUse, kp, kp])], []⟩, [(4, ⟨[(0, kp), (4, kp), (6, kp), (7, kp)], [(500000, [kp, kp]), (4, [kp, kp, kp, kp, kp]), (6, [kp, kp, kp, kp, kp, kp]), (7, [kp, kp, Dir.frz Ty.str, .own 1000703 82 tUse, kp, kp])], []⟩)], ⟨[], [], []⟩⟩
 | 6 => some ⟨⟨[(0, kp), (4, kp), (6, kp), (7, kp), (10, kp), (11, kp), (12, kp)], [(500000, [kp, kp]), (4, [kp, kp, kp, kp, kp]), (6, [kp, kp, kp, kp, kp, kp]), (7, [kp, kp, Dir.frz Ty.str, .own 1000703 82 tUse, kp, kp]), (11, [kp, kp, kp])], []⟩, [(6, ⟨[(0, kp), (4, kp), (6, kp), (7, kp), (10, kp), (11, kp)], [(500000, [kp, kp]), (4, [kp, kp, kp, kp, kp]), (6, [kp, kp, kp, kp, kp, kp]), (7, [kp, kp, Dir.frz Ty.str, .own 1000703 82 tUse, kp, kp]), (11, [kp, kp, kp])], []⟩)], ⟨[], [], []⟩⟩
 | 8 => some ⟨⟨[(6, kp), (7, kp), (13, .own 700013 9 Ty.str), (14, kp)], [(500000, [kp, kp]), (6, [kp, kp, kp, kp, kp, kp]), (7, [kp, kp, Dir.frz Ty.str, .own 1000703 82 tUse, .own 1000704 9 Ty.str, .own 1000705 9 Ty.str])], []⟩, [(8, ⟨[(6, kp), (7, kp)], [(500000, [kp, kp]), (6, [kp, kp, kp, kp, kp, kp]), (7, [kp, kp, Dir.frz Ty.str, .own 1000703 82 tUse, .own 1000704 9 Ty.str, .own 1000705 9 Ty.str])], []⟩)], ⟨[], [], []⟩⟩
 | _ => none
noncomputable def fi_f_94 : FI := ⟨Tryz.f120.results.toList, bodyOf Tryz.f120.body, Tryz.f120.ntmps, an_f_94⟩
theorem ok_f_94 : FnOK Tryz.prog 120 fi_f_94 := ⟨⟨Tryz.f120, Tryz.func120, by kernel_rfl, rfl, rfl, by kernel_rfl⟩, by kernel_rfl⟩
def phiL_f_94 (N : Nat) : List (Nat × Summ) := [(53, sm_f_51 N), (128, sm_f_71 N), (142, sm_f_64 N), (171, sm_f_95 N), (102, sm_f_109 N)]
def sg_f_94 : Summ := sigOf [.bx (.pair (.slice tByte) tInt), .d tBook true, .d tInt false] true [.d tWant true]
def S_f_94_2 (b : Book) (number : Int) (t6c0 : Int) (t6c1 : Int) (w7c1 : Int) (i8 : Int) (r_3 : Int × Rdr) (k9 : Int) (w7c2_1 : List Txt) : St := ⟨[(0, vb 500000), (4, vb 4), (6, vb 6), (7, vb 7), (8, vv tInt i8), (9, vv tInt k9)], [(500000, .box [.v tByte.slice r_3.2.1, .v tInt r_3.2.2]), (4, .box [.v tFoe.slice b.1, .v tSpot.slice b.2.1, .v tTxts b.2.2.1, .v tPart.slice b.2.2.2.1, .v tInt b.2.2.2.2]), (6, .box [.v tInt t6c0, .v tInt t6c1, .emp, .emp, .emp, .emp]), (7, .box [.v tInt number, .v tInt w7c1, .v tTxts w7c2_1, .emp, .emp, .emp])]⟩
def S_f_94_6 (b : Book) (number : Int) (t6c0_2 : Int) (t6c1_2 : Int) (w7c1_2 : Int) (i10 : Int) (w7c3a : List Use) (u11c0 : Txt) (u11c1 : Int) (u11c2 : Int) (k12 : Int) (rpc0_3 : List Int) (rpc1_3 : Int) (w7c2_3 : List Txt) : St := ⟨[(0, vb 500000), (4, vb 4), (6, vb 6), (7, vb 7), (10, vv tInt i10), (11, vb 11), (12, vv tInt k12)], [(500000, .box [.v tByte.slice rpc0_3, .v tInt rpc1_3]), (4, .box [.v tFoe.slice b.1, .v tSpot.slice b.2.1, .v tTxts b.2.2.1, .v tPart.slice b.2.2.2.1, .v tInt b.2.2.2.2]), (6, .box [.v tInt t6c0_2, .v tInt t6c1_2, .emp, .emp, .emp, .emp]), (7, .box [.v tInt number, .v tInt w7c1_2, .v tTxts w7c2_3, .arr 1000703, .emp, .emp]), (11, .box [.v Ty.str u11c0, .v tInt u11c1, .v tInt u11c2]), (1000703, .arr 82 tUse w7c3a)]⟩
def S_f_94_8 (number : Int) (t6c0_2 : Int) (t6c1_2 : Int) (w7c1_2 : Int) (w7c2_2 : List Txt) (w7c3a : List Use) (r_10 : List Txt × Rdr) (r_11 : List Txt × Rdr) (i14 : Int) (w7c4a : List Txt) : St := ⟨[(6, vb 6), (7, vb 7), (13, va 700013), (14, vv tInt i14)], [(500000, .box [.v tByte.slice r_11.2.1, .v tInt r_11.2.2]), (6, .box [.v tInt t6c0_2, .v tInt t6c1_2, .emp, .emp, .emp, .emp]), (7, .box [.v tInt number, .v tInt w7c1_2, .v tTxts w7c2_2, .arr 1000703, .arr 1000704, .arr 1000705]), (700013, .arr 9 Ty.str r_11.1), (1000703, .arr 82 tUse w7c3a), (1000704, .arr 9 Ty.str w7c4a), (1000705, .arr 9 Ty.str r_10.1)]⟩
def S_f_94_4 (b : Book) (number : Int) (t6c0_2 : Int) (t6c1_2 : Int) (w7c1_2 : Int) (i10 : Int) (rpc0_2 : List Int) (rpc1_2 : Int) (w7c2_2 : List Txt) (w7c3a : List Use) : St := ⟨[(0, vb 500000), (4, vb 4), (6, vb 6), (7, vb 7), (10, vv tInt i10)], [(500000, .box [.v tByte.slice rpc0_2, .v tInt rpc1_2]), (4, .box [.v tFoe.slice b.1, .v tSpot.slice b.2.1, .v tTxts b.2.2.1, .v tPart.slice b.2.2.2.1, .v tInt b.2.2.2.2]), (6, .box [.v tInt t6c0_2, .v tInt t6c1_2, .emp, .emp, .emp, .emp]), (7, .box [.v tInt number, .v tInt w7c1_2, .v tTxts w7c2_2, .arr 1000703, .emp, .emp]), (1000703, .arr 82 tUse w7c3a)]⟩
def S_f_94_0 (b : Book) (number : Int) (t6c0 : Int) (t6c1 : Int) (w7c1 : Int) (i8 : Int) (rpc0 : List Int) (rpc1 : Int) (w7c2 : List Txt) : St := ⟨[(0, vb 500000), (4, vb 4), (6, vb 6), (7, vb 7), (8, vv tInt i8)], [(500000, .box [.v tByte.slice rpc0, .v tInt rpc1]), (4, .box [.v tFoe.slice b.1, .v tSpot.slice b.2.1, .v tTxts b.2.2.1, .v tPart.slice b.2.2.2.1, .v tInt b.2.2.2.2]), (6, .box [.v tInt t6c0, .v tInt t6c1, .emp, .emp, .emp, .emp]), (7, .box [.v tInt number, .v tInt w7c1, .v tTxts w7c2, .emp, .emp, .emp])]⟩
noncomputable def E_f_94 (N : Nat) : Env := envOf (tabOf tabL) (tabS (phiL_f_94 N)) inl0 N fi_f_94 [500000]
noncomputable def K_f_94 := (kFun (tabOf tabL) fi_f_94.res (kT (ofDs [tWant, .pair (.slice tByte) tInt]) sg_f_94 [(500000, .bx (.pair (.slice tByte) tInt))]))
noncomputable def its_f_94_2 (N : Nat) (nxS0 : St → Option (Want × Rdr)) (n : Nat) : St → Option (Want × Rdr) := fun S' => iter [500000] (annAt fi_f_94 2) (code (E_f_94 N) (lpIn (lpIn fi_f_94.body 0 0) 0 2) 2) n S' (contOf (E_f_94 N) (lpIn fi_f_94.body 0 0) 0 2 (kLoop [500000] (annAt fi_f_94 0) nxS0 (contOf (E_f_94 N) fi_f_94.body 0 0 K_f_94)))
noncomputable def it_f_94_2 (N : Nat) (nxS0 : St → Option (Want × Rdr)) (b : Book) (number : Int) (t6c0 : Int) (t6c1 : Int) (w7c1 : Int) (i8 : Int) (r_3 : Int × Rdr) (n : Nat) : Int → (List Txt) → Option (Want × Rdr) := fun k9 w7c2_1 => its_f_94_2 N nxS0 n (S_f_94_2 b number t6c0 t6c1 w7c1 i8 r_3 k9 w7c2_1)
theorem fe_f_94_2 (N : Nat) (nxS0 : St → Option (Want × Rdr)) (b : Book) (number : Int) (t6c0 : Int) (t6c1 : Int) (w7c1 : Int) : it_f_94_2 N nxS0 b number t6c0 t6c1 w7c1 = f_94_2 N (fun i8 rpc0 rpc1 w7c2 => nxS0 (S_f_94_0 b number t6c0 t6c1 w7c1 i8 rpc0 rpc1 w7c2)) b number t6c0 t6c1 w7c1 := funext fun i8 => funext fun r_3 => funext (lp_all (by kernel_rfl) fun n => by
 show _ = f_94_2r N (fun i8 rpc0 rpc1 w7c2 => nxS0 (S_f_94_0 b number t6c0 t6c1 w7c1 i8 rpc0 rpc1 w7c2)) b number t6c0 t6c1 w7c1 i8 r_3 (it_f_94_2 N nxS0 b number t6c0 t6c1 w7c1 i8 r_3 n)
 kernel_rfl)
noncomputable def its_f_94_6 (N : Nat) (nxS4 : St → Option (Want × Rdr)) (n : Nat) : St → Option (Want × Rdr) := fun S' => iter [500000] (annAt fi_f_94 6) (code (E_f_94 N) (lpIn (lpIn fi_f_94.body 0 4) 4 6) 6) n S' (contOf (E_f_94 N) (lpIn fi_f_94.body 0 4) 4 6 (kLoop [500000] (annAt fi_f_94 4) nxS4 (contOf (E_f_94 N) fi_f_94.body 0 4 K_f_94)))
noncomputable def it_f_94_6 (N : Nat) (nxS4 : St → Option (Want × Rdr)) (b : Book) (number : Int) (t6c0_2 : Int) (t6c1_2 : Int) (w7c1_2 : Int) (i10 : Int) (w7c3a : List Use) (u11c0 : Txt) (u11c1 : Int) (u11c2 : Int) (n : Nat) : Int → (List Int) → Int → (List Txt) → Option (Want × Rdr) := fun k12 rpc0_3 rpc1_3 w7c2_3 => its_f_94_6 N nxS4 n (S_f_94_6 b number t6c0_2 t6c1_2 w7c1_2 i10 w7c3a u11c0 u11c1 u11c2 k12 rpc0_3 rpc1_3 w7c2_3)
theorem fe_f_94_6 (N : Nat) (nxS4 : St → Option (Want × Rdr)) (b : Book) (number : Int) (t6c0_2 : Int) (t6c1_2 : Int) (w7c1_2 : Int) : it_f_94_6 N nxS4 b number t6c0_2 t6c1_2 w7c1_2 = f_94_6 N (fun i10 rpc0_2 rpc1_2 w7c2_2 w7c3a => nxS4 (S_f_94_4 b number t6c0_2 t6c1_2 w7c1_2 i10 rpc0_2 rpc1_2 w7c2_2 w7c3a)) b number t6c0_2 t6c1_2 w7c1_2 := funext fun i10 => funext fun w7c3a => funext fun u11c0 => funext fun u11c1 => funext fun u11c2 => funext (lp_all (by kernel_rfl) fun n => by
 show _ = f_94_6r N (fun i10 rpc0_2 rpc1_2 w7c2_2 w7c3a => nxS4 (S_f_94_4 b number t6c0_2 t6c1_2 w7c1_2 i10 rpc0_2 rpc1_2 w7c2_2 w7c3a)) b number t6c0_2 t6c1_2 w7c1_2 i10 w7c3a u11c0 u11c1 u11c2 (it_f_94_6 N nxS4 b number t6c0_2 t6c1_2 w7c1_2 i10 w7c3a u11c0 u11c1 u11c2 n)
 kernel_rfl)
noncomputable def its_f_94_8 (N : Nat) (n : Nat) : St → Option (Want × Rdr) := fun S' => iter [500000] (annAt fi_f_94 8) (code (E_f_94 N) (lpIn fi_f_94.body 0 8) 8) n S' (contOf (E_f_94 N) fi_f_94.body 0 8 K_f_94)
noncomputable def it_f_94_8 (N : Nat) (number : Int) (t6c0_2 : Int) (t6c1_2 : Int) (w7c1_2 : Int) (w7c2_2 : List Txt) (w7c3a : List Use) (r_10 : List Txt × Rdr) (r_11 : List Txt × Rdr) (n : Nat) : Int → (List Txt) → Option (Want × Rdr) := fun i14 w7c4a => its_f_94_8 N n (S_f_94_8 number t6c0_2 t6c1_2 w7c1_2 w7c2_2 w7c3a r_10 r_11 i14 w7c4a)
theorem fe_f_94_8 (N : Nat) : it_f_94_8 N = f_94_8 N := funext fun number => funext fun t6c0_2 => funext fun t6c1_2 => funext fun w7c1_2 => funext fun w7c2_2 => funext fun w7c3a => funext fun r_10 => funext fun r_11 => funext (lp_all (by kernel_rfl) fun n => by
 show _ = f_94_8r N number t6c0_2 t6c1_2 w7c1_2 w7c2_2 w7c3a r_10 r_11 (it_f_94_8 N number t6c0_2 t6c1_2 w7c1_2 w7c2_2 w7c3a r_10 r_11 n)
 kernel_rfl)
noncomputable def its_f_94_4 (N : Nat) (n : Nat) : St → Option (Want × Rdr) := fun S' => iter [500000] (annAt fi_f_94 4) (code (E_f_94 N) (lpIn fi_f_94.body 0 4) 4) n S' (contOf (E_f_94 N) fi_f_94.body 0 4 K_f_94)
noncomputable def it_f_94_4 (N : Nat) (b : Book) (number : Int) (t6c0_2 : Int) (t6c1_2 : Int) (w7c1_2 : Int) (n : Nat) : Int → (List Int) → Int → (List Txt) → (List Use) → Option (Want × Rdr) := fun i10 rpc0_2 rpc1_2 w7c2_2 w7c3a => its_f_94_4 N n (S_f_94_4 b number t6c0_2 t6c1_2 w7c1_2 i10 rpc0_2 rpc1_2 w7c2_2 w7c3a)
theorem fe_f_94_4 (N : Nat) : it_f_94_4 N = f_94_4 N := funext fun b => funext fun number => funext fun t6c0_2 => funext fun t6c1_2 => funext fun w7c1_2 => funext (lp_all (by kernel_rfl) fun n => by
 show _ = f_94_4r N (f_94_6 N (it_f_94_4 N b number t6c0_2 t6c1_2 w7c1_2 n) b number t6c0_2 t6c1_2 w7c1_2) (f_94_8 N) b number t6c0_2 t6c1_2 w7c1_2 (it_f_94_4 N b number t6c0_2 t6c1_2 w7c1_2 n)
 rw [show f_94_6 N (it_f_94_4 N b number t6c0_2 t6c1_2 w7c1_2 n) b number t6c0_2 t6c1_2 w7c1_2 = it_f_94_6 N (its_f_94_4 N n) b number t6c0_2 t6c1_2 w7c1_2 from (fe_f_94_6 N (its_f_94_4 N n) b number t6c0_2 t6c1_2 w7c1_2).symm]
 rw [show f_94_8 N = it_f_94_8 N from (fe_f_94_8 N).symm]
 kernel_rfl)
noncomputable def its_f_94_0 (N : Nat) (n : Nat) : St → Option (Want × Rdr) := fun S' => iter [500000] (annAt fi_f_94 0) (code (E_f_94 N) (lpIn fi_f_94.body 0 0) 0) n S' (contOf (E_f_94 N) fi_f_94.body 0 0 K_f_94)
noncomputable def it_f_94_0 (N : Nat) (b : Book) (number : Int) (t6c0 : Int) (t6c1 : Int) (w7c1 : Int) (n : Nat) : Int → (List Int) → Int → (List Txt) → Option (Want × Rdr) := fun i8 rpc0 rpc1 w7c2 => its_f_94_0 N n (S_f_94_0 b number t6c0 t6c1 w7c1 i8 rpc0 rpc1 w7c2)
theorem fe_f_94_0 (N : Nat) : it_f_94_0 N = f_94_0 N := funext fun b => funext fun number => funext fun t6c0 => funext fun t6c1 => funext fun w7c1 => funext (lp_all (by kernel_rfl) fun n => by
 show _ = f_94_0r N (f_94_2 N (it_f_94_0 N b number t6c0 t6c1 w7c1 n) b number t6c0 t6c1 w7c1) (f_94_4 N) b number t6c0 t6c1 w7c1 (it_f_94_0 N b number t6c0 t6c1 w7c1 n)
 rw [show f_94_2 N (it_f_94_0 N b number t6c0 t6c1 w7c1 n) b number t6c0 t6c1 w7c1 = it_f_94_2 N (its_f_94_0 N n) b number t6c0 t6c1 w7c1 from (fe_f_94_2 N (its_f_94_0 N n) b number t6c0 t6c1 w7c1).symm]
 rw [show f_94_4 N = it_f_94_4 N from (fe_f_94_4 N).symm]
 kernel_rfl)
theorem run_f_94 (N : Nat) (r : Rdr) (b : Book) (number : Int) : runST (ofDs [tWant, .pair (.slice tByte) tInt]) (tabOf tabL) (tabS (phiL_f_94 N)) inl0 N fi_f_94 sg_f_94 [⟨.pair (.slice tByte) tInt, r⟩, ⟨tBook, b⟩, ⟨tInt, number⟩] = F.f_94 N r b number := by
 show _ = F.f_94b N (F.f_94_0 N) (F.f_94_4 N) r b number
 rw [← fe_f_94_0 N]
 rw [← fe_f_94_4 N]
 kernel_rfl
def sm_f_94 (N : Nat) : Summ := summOf [.bx (.pair (.slice tByte) tInt), .d tBook true, .d tInt false] true [.d tWant true] [tWant, .pair (.slice tByte) tInt] (F.f_94 N)
theorem con_f_94 (N : Nat) : Contract Tryz.prog 120 (sm_f_94 N) := con_of (N := N) tabOK mixed (callOK_list (l := phiL_f_94 N) (allc rfl (con_f_51 N) (allc rfl (con_f_71 N) (allc rfl (con_f_64 N) (allc rfl (con_f_95 N) (allc rfl (con_f_109 N) trivial)))))) (inl0_ok _) ok_f_94 (by decide) fun r b number => run_f_94 N r b number
def an_f_112 : Nat → Option Ann := fun _ => none
noncomputable def fi_f_112 : FI := ⟨Tryz.f176.results.toList, bodyOf Tryz.f176.body, Tryz.f176.ntmps, an_f_112⟩
theorem ok_f_112 : FnOK Tryz.prog 176 fi_f_112 := ⟨⟨Tryz.f176, Tryz.func176, by kernel_rfl, rfl, rfl, by kernel_rfl⟩, by kernel_rfl⟩
def smF_f_112 (N m : Nat) : Summ := summOf [.d tInt false] false [.d (.str) false] [.str] (F.f_112F N m)
def sm_f_112 (N : Nat) : Summ := summOf [.d tInt false] false [.d (.str) false] [.str] (F.f_112 N)
def phiL0_f_112 (N : Nat) : List (Nat × Summ) := []
def phiL1_f_112 (N m : Nat) : List (Nat × Summ) := [(176, smF_f_112 N m)]
def sg_f_112 : Summ := sigOf [.d tInt false] false [.d (.str) false]
theorem run0_f_112 (N : Nat) (n : Int) : runST (ofDs [.str]) (tabOf tabL) (tabS (phiL0_f_112 N)) inl0 N fi_f_112 sg_f_112 [⟨tInt, n⟩] = F.f_112F N 0 n := by kernel_rfl
theorem run1_f_112 (N m : Nat) (n : Int) : runST (ofDs [.str]) (tabOf tabL) (tabS (phiL1_f_112 N m)) inl0 N fi_f_112 sg_f_112 [⟨tInt, n⟩] = F.f_112F N (m + 1) n := by kernel_rfl
theorem conF_f_112 (N : Nat) : ∀ m, Contract Tryz.prog 176 (smF_f_112 N m)
 | 0 => con_of (N := N) tabOK mixed (callOK_list (l := phiL0_f_112 N) trivial) (inl0_ok _) ok_f_112 (by decide) fun n => run0_f_112 N n
 | m + 1 => con_of (N := N) tabOK mixed (callOK_list (l := phiL1_f_112 N m) (allc rfl (conF_f_112 N m) trivial)) (inl0_ok _) ok_f_112 (by decide) fun n => run1_f_112 N m n
theorem con_f_112 (N : Nat) : Contract Tryz.prog 176 (sm_f_112 N) := conF_f_112 N 64
def an_f_39 : Nat → Option Ann
 | 1 => some ⟨⟨[(4, kp), (5, kp), (6, kp), (7, kp)], [(500000, [kp, kp]), (4, [kp, kp, kp, kp, kp, kp]), (5, [kp, kp, .own 1000502 9 Ty.str, .own 1000503 82 tUse, .own 1000504 9 Ty.str, .own 1000505 9 Ty.str])], []⟩, [(1, ⟨[(4, kp), (5, kp)], [(500000, [kp, kp]), (4, [kp, kp, kp, kp, kp, kp]), (5, [kp, kp, .own 1000502 9 Ty.str, .own 1000503 82 tUse, .own 1000504 9 Ty.str, .own 1000505 9 Ty.str])], []⟩)], ⟨[], [], []⟩⟩
 | _ => none
noncomputable def fi_f_39 : FI := ⟨Tryz.f132.results.toList, bodyOf Tryz.f132.body, Tryz.f132.ntmps, an_f_39⟩
theorem ok_f_39 : FnOK Tryz.prog 132 fi_f_39 := ⟨⟨Tryz.f132, Tryz.func132, by kernel_rfl, rfl, rfl, by kernel_rfl⟩, by kernel_rfl⟩
def phiL_f_39 (N : Nat) : List (Nat × Summ) := [(130, sm_f_85 N), (53, sm_f_51 N), (128, sm_f_71 N), (176, sm_f_112 N)]
def sg_f_39 : Summ := sigOf [.bx (.pair (.slice tByte) tInt), .d tWant true] true [.d tWant true]
def S_f_39_1 (r_1 : Want) (r_13 : Int × Rdr) (n6 : Int) (t4c0 : Int) (t4c1 : Int) (i7 : Int) (x5c5a : List Txt) : St := ⟨[(4, vb 4), (5, vb 5), (6, vv tInt n6), (7, vv tInt i7)], [(500000, .box [.v tByte.slice r_13.2.1, .v tInt r_13.2.2]), (4, .box [.v tInt t4c0, .v tInt t4c1, .emp, .emp, .emp, .emp]), (5, .box [.v tInt r_1.1, .v tInt r_1.2.1, .arr 1000502, .arr 1000503, .arr 1000504, .arr 1000505]), (1000502, .arr 9 Ty.str r_1.2.2.1), (1000503, .arr 82 tUse r_1.2.2.2.1), (1000504, .arr 9 Ty.str r_1.2.2.2.2.1), (1000505, .arr 9 Ty.str x5c5a)]⟩
noncomputable def E_f_39 (N : Nat) : Env := envOf (tabOf tabL) (tabS (phiL_f_39 N)) inl0 N fi_f_39 [500000]
noncomputable def K_f_39 := (kFun (tabOf tabL) fi_f_39.res (kT (ofDs [tWant, .pair (.slice tByte) tInt]) sg_f_39 [(500000, .bx (.pair (.slice tByte) tInt))]))
noncomputable def its_f_39_1 (N : Nat) (n : Nat) : St → Option (Want × Rdr) := fun S' => iter [500000] (annAt fi_f_39 1) (code (E_f_39 N) (lpIn fi_f_39.body 0 1) 1) n S' (contOf (E_f_39 N) fi_f_39.body 0 1 K_f_39)
noncomputable def it_f_39_1 (N : Nat) (r_1 : Want) (r_13 : Int × Rdr) (n6 : Int) (t4c0 : Int) (t4c1 : Int) (n : Nat) : Int → (List Txt) → Option (Want × Rdr) := fun i7 x5c5a => its_f_39_1 N n (S_f_39_1 r_1 r_13 n6 t4c0 t4c1 i7 x5c5a)
theorem fe_f_39_1 (N : Nat) : it_f_39_1 N = f_39_1 N := funext fun r_1 => funext fun r_13 => funext fun n6 => funext fun t4c0 => funext fun t4c1 => funext (lp_all (by kernel_rfl) fun n => by
 show _ = f_39_1r N r_1 r_13 n6 t4c0 t4c1 (it_f_39_1 N r_1 r_13 n6 t4c0 t4c1 n)
 kernel_rfl)
theorem run_f_39 (N : Nat) (r : Rdr) (w : Want) : runST (ofDs [tWant, .pair (.slice tByte) tInt]) (tabOf tabL) (tabS (phiL_f_39 N)) inl0 N fi_f_39 sg_f_39 [⟨.pair (.slice tByte) tInt, r⟩, ⟨tWant, w⟩] = F.f_39 N r w := by
 show _ = F.f_39b N (F.f_39_1 N) r w
 rw [← fe_f_39_1 N]
 kernel_rfl
def sm_f_39 (N : Nat) : Summ := summOf [.bx (.pair (.slice tByte) tInt), .d tWant true] true [.d tWant true] [tWant, .pair (.slice tByte) tInt] (F.f_39 N)
theorem con_f_39 (N : Nat) : Contract Tryz.prog 132 (sm_f_39 N) := con_of (N := N) tabOK mixed (callOK_list (l := phiL_f_39 N) (allc rfl (con_f_85 N) (allc rfl (con_f_51 N) (allc rfl (con_f_71 N) (allc rfl (con_f_112 N) trivial))))) (inl0_ok _) ok_f_39 (by decide) fun r w => run_f_39 N r w
def an_f_93 : Nat → Option Ann := fun _ => none
noncomputable def fi_f_93 : FI := ⟨Tryz.f54.results.toList, bodyOf Tryz.f54.body, Tryz.f54.ntmps, an_f_93⟩
theorem ok_f_93 : FnOK Tryz.prog 54 fi_f_93 := ⟨⟨Tryz.f54, Tryz.func54, by kernel_rfl, rfl, rfl, by kernel_rfl⟩, by kernel_rfl⟩
def phiL_f_93 (N : Nat) : List (Nat × Summ) := [(53, sm_f_51 N), (103, sm_f_119 N), (131, sm_f_78 N), (120, sm_f_94 N), (132, sm_f_39 N), (130, sm_f_85 N)]
def sg_f_93 : Summ := sigOf [.bx (.pair (.slice tByte) tInt), .d tBook true] true [.d tDo true]
theorem run_f_93 (N : Nat) (r : Rdr) (b : Book) : runST (ofDs [tDo, .pair (.slice tByte) tInt]) (tabOf tabL) (tabS (phiL_f_93 N)) inl0 N fi_f_93 sg_f_93 [⟨.pair (.slice tByte) tInt, r⟩, ⟨tBook, b⟩] = F.f_93 N r b := by kernel_rfl
def sm_f_93 (N : Nat) : Summ := summOf [.bx (.pair (.slice tByte) tInt), .d tBook true] true [.d tDo true] [tDo, .pair (.slice tByte) tInt] (F.f_93 N)
theorem con_f_93 (N : Nat) : Contract Tryz.prog 54 (sm_f_93 N) := con_of (N := N) tabOK mixed (callOK_list (l := phiL_f_93 N) (allc rfl (con_f_51 N) (allc rfl (con_f_119 N) (allc rfl (con_f_78 N) (allc rfl (con_f_94 N) (allc rfl (con_f_39 N) (allc rfl (con_f_85 N) trivial))))))) (inl0_ok _) ok_f_93 (by decide) fun r b => run_f_93 N r b
def an_f_118 : Nat → Option Ann := fun _ => none
noncomputable def fi_f_118 : FI := ⟨Tryz.f67.results.toList, bodyOf Tryz.f67.body, Tryz.f67.ntmps, an_f_118⟩
theorem ok_f_118 : FnOK Tryz.prog 67 fi_f_118 := ⟨⟨Tryz.f67, Tryz.func67, by kernel_rfl, rfl, rfl, by kernel_rfl⟩, by kernel_rfl⟩
def phiL_f_118 (N : Nat) : List (Nat × Summ) := []
def sg_f_118 : Summ := sigOf [.d tInt false, .d tInt false, .d tInt false] false [.d (.bool) false]
theorem run_f_118 (N : Nat) (n : Int) (low : Int) (high : Int) : runST (ofDs [.bool]) (tabOf tabL) (tabS (phiL_f_118 N)) inl0 N fi_f_118 sg_f_118 [⟨tInt, n⟩, ⟨tInt, low⟩, ⟨tInt, high⟩] = F.f_118 N n low high := by kernel_rfl
def sm_f_118 (N : Nat) : Summ := summOf [.d tInt false, .d tInt false, .d tInt false] false [.d (.bool) false] [.bool] (F.f_118 N)
theorem con_f_118 (N : Nat) : Contract Tryz.prog 67 (sm_f_118 N) := con_of (N := N) tabOK mixed (callOK_list (l := phiL_f_118 N) trivial) (inl0_ok _) ok_f_118 (by decide) fun n low high => run_f_118 N n low high
def an_f_59 : Nat → Option Ann
 | 0 => some ⟨⟨[(0, kp), (3, kp)], [], []⟩, [(0, ⟨[], [], []⟩)], ⟨[(2, kp)], [], []⟩⟩
 | _ => none
noncomputable def fi_f_59 : FI := ⟨Tryz.f172.results.toList, bodyOf Tryz.f172.body, Tryz.f172.ntmps, an_f_59⟩
theorem ok_f_59 : FnOK Tryz.prog 172 fi_f_59 := ⟨⟨Tryz.f172, Tryz.func172, by kernel_rfl, rfl, rfl, by kernel_rfl⟩, by kernel_rfl⟩
def phiL_f_59 (N : Nat) : List (Nat × Summ) := [(67, sm_f_118 N)]
def sg_f_59 : Summ := sigOf [.d (.str) false] false [.d (.bool) false]
def S_f_59_0 (s : Txt) (i3 : Int) : St := ⟨[(0, vv Ty.str s), (3, vv tInt i3)], []⟩
noncomputable def E_f_59 (N : Nat) : Env := envOf (tabOf tabL) (tabS (phiL_f_59 N)) inl0 N fi_f_59 []
noncomputable def K_f_59 := (kFun (tabOf tabL) fi_f_59.res (kT (ofDs [.bool]) sg_f_59 []))
noncomputable def its_f_59_0 (N : Nat) (n : Nat) : St → Option Bool := fun S' => iter [] (annAt fi_f_59 0) (code (E_f_59 N) (lpIn fi_f_59.body 0 0) 0) n S' (contOf (E_f_59 N) fi_f_59.body 0 0 K_f_59)
noncomputable def it_f_59_0 (N : Nat) (s : Txt) (n : Nat) : Int → Option Bool := fun i3 => its_f_59_0 N n (S_f_59_0 s i3)
theorem fe_f_59_0 (N : Nat) : it_f_59_0 N = f_59_0 N := funext fun s => funext (lp_all (by kernel_rfl) fun n => by
 show _ = f_59_0r N s (it_f_59_0 N s n)
 kernel_rfl)
theorem run_f_59 (N : Nat) (s : Txt) : runST (ofDs [.bool]) (tabOf tabL) (tabS (phiL_f_59 N)) inl0 N fi_f_59 sg_f_59 [⟨.str, s⟩] = F.f_59 N s := by
 show _ = F.f_59b N (F.f_59_0 N) s
 rw [← fe_f_59_0 N]
 kernel_rfl
def sm_f_59 (N : Nat) : Summ := summOf [.d (.str) false] false [.d (.bool) false] [.bool] (F.f_59 N)
theorem con_f_59 (N : Nat) : Contract Tryz.prog 172 (sm_f_59 N) := con_of (N := N) tabOK mixed (callOK_list (l := phiL_f_59 N) (allc rfl (con_f_118 N) trivial)) (inl0_ok _) ok_f_59 (by decide) fun s => run_f_59 N s
def an_f_61 : Nat → Option Ann
 | 0 => some ⟨⟨[(1, kp), (3, kp)], [(1, [kp, kp, kp, kp, kp])], []⟩, [(0, ⟨[], [], []⟩)], ⟨[(2, kp)], [], []⟩⟩
 | _ => none
noncomputable def fi_f_61 : FI := ⟨Tryz.f121.results.toList, bodyOf Tryz.f121.body, Tryz.f121.ntmps, an_f_61⟩
theorem ok_f_61 : FnOK Tryz.prog 121 fi_f_61 := ⟨⟨Tryz.f121, Tryz.func121, by kernel_rfl, rfl, rfl, by kernel_rfl⟩, by kernel_rfl⟩
def phiL_f_61 (N : Nat) : List (Nat × Summ) := [(172, sm_f_59 N)]
def sg_f_61 : Summ := sigOf [.d tBook true] false [.d (.bool) false]
def S_f_61_0 (b : Book) (i3 : Int) : St := ⟨[(1, vb 1), (3, vv tInt i3)], [(1, .box [.v tFoe.slice b.1, .v tSpot.slice b.2.1, .v tTxts b.2.2.1, .v tPart.slice b.2.2.2.1, .v tInt b.2.2.2.2])]⟩
noncomputable def E_f_61 (N : Nat) : Env := envOf (tabOf tabL) (tabS (phiL_f_61 N)) inl0 N fi_f_61 []
noncomputable def K_f_61 := (kFun (tabOf tabL) fi_f_61.res (kT (ofDs [.bool]) sg_f_61 []))
noncomputable def its_f_61_0 (N : Nat) (n : Nat) : St → Option Bool := fun S' => iter [] (annAt fi_f_61 0) (code (E_f_61 N) (lpIn fi_f_61.body 0 0) 0) n S' (contOf (E_f_61 N) fi_f_61.body 0 0 K_f_61)
noncomputable def it_f_61_0 (N : Nat) (b : Book) (n : Nat) : Int → Option Bool := fun i3 => its_f_61_0 N n (S_f_61_0 b i3)
theorem fe_f_61_0 (N : Nat) : it_f_61_0 N = f_61_0 N := funext fun b => funext (lp_all (by kernel_rfl) fun n => by
 show _ = f_61_0r N b (it_f_61_0 N b n)
 kernel_rfl)
theorem run_f_61 (N : Nat) (b : Book) : runST (ofDs [.bool]) (tabOf tabL) (tabS (phiL_f_61 N)) inl0 N fi_f_61 sg_f_61 [⟨tBook, b⟩] = F.f_61 N b := by
 show _ = F.f_61b N (F.f_61_0 N) b
 rw [← fe_f_61_0 N]
 kernel_rfl
def sm_f_61 (N : Nat) : Summ := summOf [.d tBook true] false [.d (.bool) false] [.bool] (F.f_61 N)
theorem con_f_61 (N : Nat) : Contract Tryz.prog 121 (sm_f_61 N) := con_of (N := N) tabOK mixed (callOK_list (l := phiL_f_61 N) (allc rfl (con_f_59 N) trivial)) (inl0_ok _) ok_f_61 (by decide) fun b => run_f_61 N b
def an_f_50 : Nat → Option Ann
 | 0 => some ⟨⟨[(0, kp), (5, kp)], [], []⟩, [(0, ⟨[], [], []⟩)], ⟨[(4, kp)], [], []⟩⟩
 | _ => none
noncomputable def fi_f_50 : FI := ⟨Tryz.f122.results.toList, bodyOf Tryz.f122.body, Tryz.f122.ntmps, an_f_50⟩
theorem ok_f_50 : FnOK Tryz.prog 122 fi_f_50 := ⟨⟨Tryz.f122, Tryz.func122, by kernel_rfl, rfl, rfl, by kernel_rfl⟩, by kernel_rfl⟩
def phiL_f_50 (N : Nat) : List (Nat × Summ) := [(172, sm_f_59 N)]
def sg_f_50 : Summ := sigOf [.d tTxts false, .d tInt false] false [.d (.bool) false]
def S_f_50_0 (list : List Txt) (i5 : Int) : St := ⟨[(0, vv tTxts list), (5, vv tInt i5)], []⟩
noncomputable def E_f_50 (N : Nat) : Env := envOf (tabOf tabL) (tabS (phiL_f_50 N)) inl0 N fi_f_50 []
noncomputable def K_f_50 := (kFun (tabOf tabL) fi_f_50.res (kT (ofDs [.bool]) sg_f_50 []))
noncomputable def its_f_50_0 (N : Nat) (n : Nat) : St → Option Bool := fun S' => iter [] (annAt fi_f_50 0) (code (E_f_50 N) (lpIn fi_f_50.body 0 0) 0) n S' (contOf (E_f_50 N) fi_f_50.body 0 0 K_f_50)
noncomputable def it_f_50_0 (N : Nat) (list : List Txt) (n : Nat) : Int → Option Bool := fun i5 => its_f_50_0 N n (S_f_50_0 list i5)
theorem fe_f_50_0 (N : Nat) : it_f_50_0 N = f_50_0 N := funext fun list => funext (lp_all (by kernel_rfl) fun n => by
 show _ = f_50_0r N list (it_f_50_0 N list n)
 kernel_rfl)
theorem run_f_50 (N : Nat) (list : List Txt) (most : Int) : runST (ofDs [.bool]) (tabOf tabL) (tabS (phiL_f_50 N)) inl0 N fi_f_50 sg_f_50 [⟨tTxts, list⟩, ⟨tInt, most⟩] = F.f_50 N list most := by
 show _ = F.f_50b N (F.f_50_0 N) list most
 rw [← fe_f_50_0 N]
 kernel_rfl
def sm_f_50 (N : Nat) : Summ := summOf [.d tTxts false, .d tInt false] false [.d (.bool) false] [.bool] (F.f_50 N)
theorem con_f_50 (N : Nat) : Contract Tryz.prog 122 (sm_f_50 N) := con_of (N := N) tabOK mixed (callOK_list (l := phiL_f_50 N) (allc rfl (con_f_59 N) trivial)) (inl0_ok _) ok_f_50 (by decide) fun list most => run_f_50 N list most
def an_f_87 : Nat → Option Ann
 | 0 => some ⟨⟨[(1, kp), (2, kp), (3, kp), (7, kp)], [(3, [kp, kp, kp, kp, kp])], []⟩, [(0, ⟨[], [], []⟩)], ⟨[(6, kp)], [], []⟩⟩
 | _ => none
noncomputable def fi_f_87 : FI := ⟨Tryz.f180.results.toList, bodyOf Tryz.f180.body, Tryz.f180.ntmps, an_f_87⟩
theorem ok_f_87 : FnOK Tryz.prog 180 fi_f_87 := ⟨⟨Tryz.f180, Tryz.func180, by kernel_rfl, rfl, rfl, by kernel_rfl⟩, by kernel_rfl⟩
def phiL_f_87 (N : Nat) : List (Nat × Summ) := []
def sg_f_87 : Summ := sigOf [.d tBook true, .d (.str) false, .d (.str) false] false [.d (.bool) false]
def S_f_87_0 (b : Book) (x : Txt) (y : Txt) (i7 : Int) : St := ⟨[(1, vv Ty.str x), (2, vv Ty.str y), (3, vb 3), (7, vv tInt i7)], [(3, .box [.v tFoe.slice b.1, .v tSpot.slice b.2.1, .v tTxts b.2.2.1, .v tPart.slice b.2.2.2.1, .v tInt b.2.2.2.2])]⟩
noncomputable def E_f_87 (N : Nat) : Env := envOf (tabOf tabL) (tabS (phiL_f_87 N)) inl0 N fi_f_87 []
noncomputable def K_f_87 := (kFun (tabOf tabL) fi_f_87.res (kT (ofDs [.bool]) sg_f_87 []))
noncomputable def its_f_87_0 (N : Nat) (n : Nat) : St → Option Bool := fun S' => iter [] (annAt fi_f_87 0) (code (E_f_87 N) (lpIn fi_f_87.body 0 0) 0) n S' (contOf (E_f_87 N) fi_f_87.body 0 0 K_f_87)
noncomputable def it_f_87_0 (N : Nat) (b : Book) (x : Txt) (y : Txt) (n : Nat) : Int → Option Bool := fun i7 => its_f_87_0 N n (S_f_87_0 b x y i7)
theorem fe_f_87_0 (N : Nat) : it_f_87_0 N = f_87_0 N := funext fun b => funext fun x => funext fun y => funext (lp_all (by kernel_rfl) fun n => by
 show _ = f_87_0r N b x y (it_f_87_0 N b x y n)
 kernel_rfl)
theorem run_f_87 (N : Nat) (b : Book) (x : Txt) (y : Txt) : runST (ofDs [.bool]) (tabOf tabL) (tabS (phiL_f_87 N)) inl0 N fi_f_87 sg_f_87 [⟨tBook, b⟩, ⟨.str, x⟩, ⟨.str, y⟩] = F.f_87 N b x y := by
 show _ = F.f_87b N (F.f_87_0 N) b x y
 rw [← fe_f_87_0 N]
 kernel_rfl
def sm_f_87 (N : Nat) : Summ := summOf [.d tBook true, .d (.str) false, .d (.str) false] false [.d (.bool) false] [.bool] (F.f_87 N)
theorem con_f_87 (N : Nat) : Contract Tryz.prog 180 (sm_f_87 N) := con_of (N := N) tabOK mixed (callOK_list (l := phiL_f_87 N) trivial) (inl0_ok _) ok_f_87 (by decide) fun b x y => run_f_87 N b x y
def an_f_73 : Nat → Option Ann
 | 0 => some ⟨⟨[(1, kp), (2, kp), (3, kp), (7, kp)], [(3, [kp, kp, kp, kp, kp])], []⟩, [(0, ⟨[], [], []⟩)], ⟨[(6, kp)], [], []⟩⟩
 | _ => none
noncomputable def fi_f_73 : FI := ⟨Tryz.f173.results.toList, bodyOf Tryz.f173.body, Tryz.f173.ntmps, an_f_73⟩
theorem ok_f_73 : FnOK Tryz.prog 173 fi_f_73 := ⟨⟨Tryz.f173, Tryz.func173, by kernel_rfl, rfl, rfl, by kernel_rfl⟩, by kernel_rfl⟩
def phiL_f_73 (N : Nat) : List (Nat × Summ) := [(180, sm_f_87 N)]
def sg_f_73 : Summ := sigOf [.d tBook true, .d (.str) false, .d tTxts false] false [.d (.bool) false]
def S_f_73_0 (b : Book) (stuff : Txt) (may : List Txt) (i7 : Int) : St := ⟨[(1, vv Ty.str stuff), (2, vv tTxts may), (3, vb 3), (7, vv tInt i7)], [(3, .box [.v tFoe.slice b.1, .v tSpot.slice b.2.1, .v tTxts b.2.2.1, .v tPart.slice b.2.2.2.1, .v tInt b.2.2.2.2])]⟩
noncomputable def E_f_73 (N : Nat) : Env := envOf (tabOf tabL) (tabS (phiL_f_73 N)) inl0 N fi_f_73 []
noncomputable def K_f_73 := (kFun (tabOf tabL) fi_f_73.res (kT (ofDs [.bool]) sg_f_73 []))
noncomputable def its_f_73_0 (N : Nat) (n : Nat) : St → Option Bool := fun S' => iter [] (annAt fi_f_73 0) (code (E_f_73 N) (lpIn fi_f_73.body 0 0) 0) n S' (contOf (E_f_73 N) fi_f_73.body 0 0 K_f_73)
noncomputable def it_f_73_0 (N : Nat) (b : Book) (stuff : Txt) (may : List Txt) (n : Nat) : Int → Option Bool := fun i7 => its_f_73_0 N n (S_f_73_0 b stuff may i7)
theorem fe_f_73_0 (N : Nat) : it_f_73_0 N = f_73_0 N := funext fun b => funext fun stuff => funext fun may => funext (lp_all (by kernel_rfl) fun n => by
 show _ = f_73_0r N b stuff may (it_f_73_0 N b stuff may n)
 kernel_rfl)
theorem run_f_73 (N : Nat) (b : Book) (stuff : Txt) (may : List Txt) : runST (ofDs [.bool]) (tabOf tabL) (tabS (phiL_f_73 N)) inl0 N fi_f_73 sg_f_73 [⟨tBook, b⟩, ⟨.str, stuff⟩, ⟨tTxts, may⟩] = F.f_73 N b stuff may := by
 show _ = F.f_73b N (F.f_73_0 N) b stuff may
 rw [← fe_f_73_0 N]
 kernel_rfl
def sm_f_73 (N : Nat) : Summ := summOf [.d tBook true, .d (.str) false, .d tTxts false] false [.d (.bool) false] [.bool] (F.f_73 N)
theorem con_f_73 (N : Nat) : Contract Tryz.prog 173 (sm_f_73 N) := con_of (N := N) tabOK mixed (callOK_list (l := phiL_f_73 N) (allc rfl (con_f_87 N) trivial)) (inl0_ok _) ok_f_73 (by decide) fun b stuff may => run_f_73 N b stuff may
def an_f_63 : Nat → Option Ann
 | 0 => some ⟨⟨[(2, kp), (3, kp), (5, kp)], [(2, [kp, kp, kp, kp, kp]), (3, [kp, kp, kp, kp, kp])], []⟩, [(0, ⟨[], [], []⟩)], ⟨[(4, kp)], [], []⟩⟩
 | _ => none
noncomputable def fi_f_63 : FI := ⟨Tryz.f123.results.toList, bodyOf Tryz.f123.body, Tryz.f123.ntmps, an_f_63⟩
theorem ok_f_63 : FnOK Tryz.prog 123 fi_f_63 := ⟨⟨Tryz.f123, Tryz.func123, by kernel_rfl, rfl, rfl, by kernel_rfl⟩, by kernel_rfl⟩
def phiL_f_63 (N : Nat) : List (Nat × Summ) := [(172, sm_f_59 N), (67, sm_f_118 N), (122, sm_f_50 N), (173, sm_f_73 N)]
def sg_f_63 : Summ := sigOf [.d tBook true, .d tSpot true] false [.d (.bool) false]
def S_f_63_0 (b : Book) (s : Spot) (i5 : Int) : St := ⟨[(2, vb 2), (3, vb 3), (5, vv tInt i5)], [(2, .box [.v tFoe.slice b.1, .v tSpot.slice b.2.1, .v tTxts b.2.2.1, .v tPart.slice b.2.2.2.1, .v tInt b.2.2.2.2]), (3, .box [.v Ty.str s.1, .v tInt s.2.1, .v tInt s.2.2.1, .v tInt s.2.2.2.1, .v tTxts s.2.2.2.2])]⟩
noncomputable def E_f_63 (N : Nat) : Env := envOf (tabOf tabL) (tabS (phiL_f_63 N)) inl0 N fi_f_63 []
noncomputable def K_f_63 := (kFun (tabOf tabL) fi_f_63.res (kT (ofDs [.bool]) sg_f_63 []))
noncomputable def its_f_63_0 (N : Nat) (n : Nat) : St → Option Bool := fun S' => iter [] (annAt fi_f_63 0) (code (E_f_63 N) (lpIn fi_f_63.body 0 0) 0) n S' (contOf (E_f_63 N) fi_f_63.body 0 0 K_f_63)
noncomputable def it_f_63_0 (N : Nat) (b : Book) (s : Spot) (n : Nat) : Int → Option Bool := fun i5 => its_f_63_0 N n (S_f_63_0 b s i5)
theorem fe_f_63_0 (N : Nat) : it_f_63_0 N = f_63_0 N := funext fun b => funext fun s => funext (lp_all (by kernel_rfl) fun n => by
 show _ = f_63_0r N b s (it_f_63_0 N b s n)
 kernel_rfl)
theorem run_f_63 (N : Nat) (b : Book) (s : Spot) : runST (ofDs [.bool]) (tabOf tabL) (tabS (phiL_f_63 N)) inl0 N fi_f_63 sg_f_63 [⟨tBook, b⟩, ⟨tSpot, s⟩] = F.f_63 N b s := by
 show _ = F.f_63b N (F.f_63_0 N) b s
 rw [← fe_f_63_0 N]
 kernel_rfl
def sm_f_63 (N : Nat) : Summ := summOf [.d tBook true, .d tSpot true] false [.d (.bool) false] [.bool] (F.f_63 N)
theorem con_f_63 (N : Nat) : Contract Tryz.prog 123 (sm_f_63 N) := con_of (N := N) tabOK mixed (callOK_list (l := phiL_f_63 N) (allc rfl (con_f_59 N) (allc rfl (con_f_118 N) (allc rfl (con_f_50 N) (allc rfl (con_f_73 N) trivial))))) (inl0_ok _) ok_f_63 (by decide) fun b s => run_f_63 N b s
def an_f_60 : Nat → Option Ann
 | 0 => some ⟨⟨[(1, kp), (3, kp)], [(1, [kp, kp, kp, kp, kp, kp])], []⟩, [(0, ⟨[], [], []⟩)], ⟨[(2, kp)], [], []⟩⟩
 | _ => none
noncomputable def fi_f_60 : FI := ⟨Tryz.f126.results.toList, bodyOf Tryz.f126.body, Tryz.f126.ntmps, an_f_60⟩
theorem ok_f_60 : FnOK Tryz.prog 126 fi_f_60 := ⟨⟨Tryz.f126, Tryz.func126, by kernel_rfl, rfl, rfl, by kernel_rfl⟩, by kernel_rfl⟩
def phiL_f_60 (N : Nat) : List (Nat × Summ) := [(172, sm_f_59 N), (67, sm_f_118 N)]
def sg_f_60 : Summ := sigOf [.d tWant true] false [.d (.bool) false]
def S_f_60_0 (w : Want) (i3 : Int) : St := ⟨[(1, vb 1), (3, vv tInt i3)], [(1, .box [.v tInt w.1, .v tInt w.2.1, .v tTxts w.2.2.1, .v tUse.slice w.2.2.2.1, .v tTxts w.2.2.2.2.1, .v tTxts w.2.2.2.2.2])]⟩
noncomputable def E_f_60 (N : Nat) : Env := envOf (tabOf tabL) (tabS (phiL_f_60 N)) inl0 N fi_f_60 []
noncomputable def K_f_60 := (kFun (tabOf tabL) fi_f_60.res (kT (ofDs [.bool]) sg_f_60 []))
noncomputable def its_f_60_0 (N : Nat) (n : Nat) : St → Option Bool := fun S' => iter [] (annAt fi_f_60 0) (code (E_f_60 N) (lpIn fi_f_60.body 0 0) 0) n S' (contOf (E_f_60 N) fi_f_60.body 0 0 K_f_60)
noncomputable def it_f_60_0 (N : Nat) (w : Want) (n : Nat) : Int → Option Bool := fun i3 => its_f_60_0 N n (S_f_60_0 w i3)
theorem fe_f_60_0 (N : Nat) : it_f_60_0 N = f_60_0 N := funext fun w => funext (lp_all (by kernel_rfl) fun n => by
 show _ = f_60_0r N w (it_f_60_0 N w n)
 kernel_rfl)
theorem run_f_60 (N : Nat) (w : Want) : runST (ofDs [.bool]) (tabOf tabL) (tabS (phiL_f_60 N)) inl0 N fi_f_60 sg_f_60 [⟨tWant, w⟩] = F.f_60 N w := by
 show _ = F.f_60b N (F.f_60_0 N) w
 rw [← fe_f_60_0 N]
 kernel_rfl
def sm_f_60 (N : Nat) : Summ := summOf [.d tWant true] false [.d (.bool) false] [.bool] (F.f_60 N)
theorem con_f_60 (N : Nat) : Contract Tryz.prog 126 (sm_f_60 N) := con_of (N := N) tabOK mixed (callOK_list (l := phiL_f_60 N) (allc rfl (con_f_59 N) (allc rfl (con_f_118 N) trivial))) (inl0_ok _) ok_f_60 (by decide) fun w => run_f_60 N w
def an_f_72 : Nat → Option Ann
 | 0 => some ⟨⟨[(0, kp), (1, kp), (5, kp)], [], []⟩, [(0, ⟨[], [], []⟩)], ⟨[(4, kp)], [], []⟩⟩
 | _ => none
noncomputable def fi_f_72 : FI := ⟨Tryz.f107.results.toList, bodyOf Tryz.f107.body, Tryz.f107.ntmps, an_f_72⟩
theorem ok_f_72 : FnOK Tryz.prog 107 fi_f_72 := ⟨⟨Tryz.f107, Tryz.func107, by kernel_rfl, rfl, rfl, by kernel_rfl⟩, by kernel_rfl⟩
def phiL_f_72 (N : Nat) : List (Nat × Summ) := [(102, sm_f_109 N)]
def sg_f_72 : Summ := sigOf [.d tTxts false, .d tTxts false] false [.d (.bool) false]
def S_f_72_0 (a : List Txt) (b : List Txt) (i5 : Int) : St := ⟨[(0, vv tTxts a), (1, vv tTxts b), (5, vv tInt i5)], []⟩
noncomputable def E_f_72 (N : Nat) : Env := envOf (tabOf tabL) (tabS (phiL_f_72 N)) inl0 N fi_f_72 []
noncomputable def K_f_72 := (kFun (tabOf tabL) fi_f_72.res (kT (ofDs [.bool]) sg_f_72 []))
noncomputable def its_f_72_0 (N : Nat) (n : Nat) : St → Option Bool := fun S' => iter [] (annAt fi_f_72 0) (code (E_f_72 N) (lpIn fi_f_72.body 0 0) 0) n S' (contOf (E_f_72 N) fi_f_72.body 0 0 K_f_72)
noncomputable def it_f_72_0 (N : Nat) (a : List Txt) (b : List Txt) (n : Nat) : Int → Option Bool := fun i5 => its_f_72_0 N n (S_f_72_0 a b i5)
theorem fe_f_72_0 (N : Nat) : it_f_72_0 N = f_72_0 N := funext fun a => funext fun b => funext (lp_all (by kernel_rfl) fun n => by
 show _ = f_72_0r N a b (it_f_72_0 N a b n)
 kernel_rfl)
theorem run_f_72 (N : Nat) (a : List Txt) (b : List Txt) : runST (ofDs [.bool]) (tabOf tabL) (tabS (phiL_f_72 N)) inl0 N fi_f_72 sg_f_72 [⟨tTxts, a⟩, ⟨tTxts, b⟩] = F.f_72 N a b := by
 show _ = F.f_72b N (F.f_72_0 N) a b
 rw [← fe_f_72_0 N]
 kernel_rfl
def sm_f_72 (N : Nat) : Summ := summOf [.d tTxts false, .d tTxts false] false [.d (.bool) false] [.bool] (F.f_72 N)
theorem con_f_72 (N : Nat) : Contract Tryz.prog 107 (sm_f_72 N) := con_of (N := N) tabOK mixed (callOK_list (l := phiL_f_72 N) (allc rfl (con_f_109 N) trivial)) (inl0_ok _) ok_f_72 (by decide) fun a b => run_f_72 N a b
def an_f_38 : Nat → Option Ann := fun _ => none
noncomputable def fi_f_38 : FI := ⟨Tryz.f47.results.toList, bodyOf Tryz.f47.body, Tryz.f47.ntmps, an_f_38⟩
theorem ok_f_38 : FnOK Tryz.prog 47 fi_f_38 := ⟨⟨Tryz.f47, Tryz.func47, by kernel_rfl, rfl, rfl, by kernel_rfl⟩, by kernel_rfl⟩
def phiL_f_38 (N : Nat) : List (Nat × Summ) := [(67, sm_f_118 N), (126, sm_f_60 N), (122, sm_f_50 N), (107, sm_f_72 N)]
def sg_f_38 : Summ := sigOf [.d tWant true] false [.d (.bool) false]
theorem run_f_38 (N : Nat) (w : Want) : runST (ofDs [.bool]) (tabOf tabL) (tabS (phiL_f_38 N)) inl0 N fi_f_38 sg_f_38 [⟨tWant, w⟩] = F.f_38 N w := by kernel_rfl
def sm_f_38 (N : Nat) : Summ := summOf [.d tWant true] false [.d (.bool) false] [.bool] (F.f_38 N)
theorem con_f_38 (N : Nat) : Contract Tryz.prog 47 (sm_f_38 N) := con_of (N := N) tabOK mixed (callOK_list (l := phiL_f_38 N) (allc rfl (con_f_118 N) (allc rfl (con_f_60 N) (allc rfl (con_f_50 N) (allc rfl (con_f_72 N) trivial))))) (inl0_ok _) ok_f_38 (by decide) fun w => run_f_38 N w
def an_f_89 : Nat → Option Ann
 | 0 => some ⟨⟨[(1, kp), (2, kp), (5, kp)], [(2, [kp, kp, kp, kp, kp])], []⟩, [(0, ⟨[], [], []⟩)], ⟨[(4, kp)], [], []⟩⟩
 | _ => none
noncomputable def fi_f_89 : FI := ⟨Tryz.f62.results.toList, bodyOf Tryz.f62.body, Tryz.f62.ntmps, an_f_89⟩
theorem ok_f_89 : FnOK Tryz.prog 62 fi_f_89 := ⟨⟨Tryz.f62, Tryz.func62, by kernel_rfl, rfl, rfl, by kernel_rfl⟩, by kernel_rfl⟩
def phiL_f_89 (N : Nat) : List (Nat × Summ) := []
def sg_f_89 : Summ := sigOf [.d tBook true, .d (.str) false] false [.d tInt false]
def S_f_89_0 (b : Book) (name : Txt) (i5 : Int) : St := ⟨[(1, vv Ty.str name), (2, vb 2), (5, vv tInt i5)], [(2, .box [.v tFoe.slice b.1, .v tSpot.slice b.2.1, .v tTxts b.2.2.1, .v tPart.slice b.2.2.2.1, .v tInt b.2.2.2.2])]⟩
noncomputable def E_f_89 (N : Nat) : Env := envOf (tabOf tabL) (tabS (phiL_f_89 N)) inl0 N fi_f_89 []
noncomputable def K_f_89 := (kFun (tabOf tabL) fi_f_89.res (kT (ofDs [tInt]) sg_f_89 []))
noncomputable def its_f_89_0 (N : Nat) (n : Nat) : St → Option Int := fun S' => iter [] (annAt fi_f_89 0) (code (E_f_89 N) (lpIn fi_f_89.body 0 0) 0) n S' (contOf (E_f_89 N) fi_f_89.body 0 0 K_f_89)
noncomputable def it_f_89_0 (N : Nat) (b : Book) (name : Txt) (n : Nat) : Int → Option Int := fun i5 => its_f_89_0 N n (S_f_89_0 b name i5)
theorem fe_f_89_0 (N : Nat) : it_f_89_0 N = f_89_0 N := funext fun b => funext fun name => funext (lp_all (by kernel_rfl) fun n => by
 show _ = f_89_0r N b name (it_f_89_0 N b name n)
 kernel_rfl)
theorem run_f_89 (N : Nat) (b : Book) (name : Txt) : runST (ofDs [tInt]) (tabOf tabL) (tabS (phiL_f_89 N)) inl0 N fi_f_89 sg_f_89 [⟨tBook, b⟩, ⟨.str, name⟩] = F.f_89 N b name := by
 show _ = F.f_89b N (F.f_89_0 N) b name
 rw [← fe_f_89_0 N]
 kernel_rfl
def sm_f_89 (N : Nat) : Summ := summOf [.d tBook true, .d (.str) false] false [.d tInt false] [tInt] (F.f_89 N)
theorem con_f_89 (N : Nat) : Contract Tryz.prog 62 (sm_f_89 N) := con_of (N := N) tabOK mixed (callOK_list (l := phiL_f_89 N) trivial) (inl0_ok _) ok_f_89 (by decide) fun b name => run_f_89 N b name
def an_f_74 : Nat → Option Ann
 | 0 => some ⟨⟨[(2, kp), (3, kp), (5, kp)], [(2, [kp, kp, kp, kp, kp]), (3, [kp, kp, kp, kp, kp, kp])], []⟩, [(0, ⟨[(2, kp), (3, kp)], [(2, [kp, kp, kp, kp, kp]), (3, [kp, kp, kp, kp, kp, kp])], []⟩)], ⟨[(4, kp)], [], []⟩⟩
 | 2 => some ⟨⟨[(2, kp), (3, kp), (6, kp)], [(2, [kp, kp, kp, kp, kp]), (3, [kp, kp, kp, kp, kp, kp])], []⟩, [(2, ⟨[(2, kp), (3, kp)], [(2, [kp, kp, kp, kp, kp]), (3, [kp, kp, kp, kp, kp, kp])], []⟩)], ⟨[(4, kp)], [], []⟩⟩
 | 4 => some ⟨⟨[(2, kp), (3, kp), (7, kp)], [(2, [kp, kp, kp, kp, kp]), (3, [kp, kp, kp, kp, kp, kp])], []⟩, [(4, ⟨[], [], []⟩)], ⟨[(4, kp)], [], []⟩⟩
 | _ => none
noncomputable def fi_f_74 : FI := ⟨Tryz.f105.results.toList, bodyOf Tryz.f105.body, Tryz.f105.ntmps, an_f_74⟩
theorem ok_f_74 : FnOK Tryz.prog 105 fi_f_74 := ⟨⟨Tryz.f105, Tryz.func105, by kernel_rfl, rfl, rfl, by kernel_rfl⟩, by kernel_rfl⟩
def phiL_f_74 (N : Nat) : List (Nat × Summ) := [(62, sm_f_89 N), (102, sm_f_109 N)]
def sg_f_74 : Summ := sigOf [.d tBook true, .d tWant true] false [.d (.bool) false]
def S_f_74_4 (b : Book) (w : Want) (i7 : Int) : St := ⟨[(2, vb 2), (3, vb 3), (7, vv tInt i7)], [(2, .box [.v tFoe.slice b.1, .v tSpot.slice b.2.1, .v tTxts b.2.2.1, .v tPart.slice b.2.2.2.1, .v tInt b.2.2.2.2]), (3, .box [.v tInt w.1, .v tInt w.2.1, .v tTxts w.2.2.1, .v tUse.slice w.2.2.2.1, .v tTxts w.2.2.2.2.1, .v tTxts w.2.2.2.2.2])]⟩
def S_f_74_2 (b : Book) (w : Want) (i6 : Int) : St := ⟨[(2, vb 2), (3, vb 3), (6, vv tInt i6)], [(2, .box [.v tFoe.slice b.1, .v tSpot.slice b.2.1, .v tTxts b.2.2.1, .v tPart.slice b.2.2.2.1, .v tInt b.2.2.2.2]), (3, .box [.v tInt w.1, .v tInt w.2.1, .v tTxts w.2.2.1, .v tUse.slice w.2.2.2.1, .v tTxts w.2.2.2.2.1, .v tTxts w.2.2.2.2.2])]⟩
def S_f_74_0 (b : Book) (w : Want) (i5 : Int) : St := ⟨[(2, vb 2), (3, vb 3), (5, vv tInt i5)], [(2, .box [.v tFoe.slice b.1, .v tSpot.slice b.2.1, .v tTxts b.2.2.1, .v tPart.slice b.2.2.2.1, .v tInt b.2.2.2.2]), (3, .box [.v tInt w.1, .v tInt w.2.1, .v tTxts w.2.2.1, .v tUse.slice w.2.2.2.1, .v tTxts w.2.2.2.2.1, .v tTxts w.2.2.2.2.2])]⟩
noncomputable def E_f_74 (N : Nat) : Env := envOf (tabOf tabL) (tabS (phiL_f_74 N)) inl0 N fi_f_74 []
noncomputable def K_f_74 := (kFun (tabOf tabL) fi_f_74.res (kT (ofDs [.bool]) sg_f_74 []))
noncomputable def its_f_74_4 (N : Nat) (n : Nat) : St → Option Bool := fun S' => iter [] (annAt fi_f_74 4) (code (E_f_74 N) (lpIn fi_f_74.body 0 4) 4) n S' (contOf (E_f_74 N) fi_f_74.body 0 4 K_f_74)
noncomputable def it_f_74_4 (N : Nat) (b : Book) (w : Want) (n : Nat) : Int → Option Bool := fun i7 => its_f_74_4 N n (S_f_74_4 b w i7)
theorem fe_f_74_4 (N : Nat) : it_f_74_4 N = f_74_4 N := funext fun b => funext fun w => funext (lp_all (by kernel_rfl) fun n => by
 show _ = f_74_4r N b w (it_f_74_4 N b w n)
 kernel_rfl)
noncomputable def its_f_74_2 (N : Nat) (n : Nat) : St → Option Bool := fun S' => iter [] (annAt fi_f_74 2) (code (E_f_74 N) (lpIn fi_f_74.body 0 2) 2) n S' (contOf (E_f_74 N) fi_f_74.body 0 2 K_f_74)
noncomputable def it_f_74_2 (N : Nat) (b : Book) (w : Want) (n : Nat) : Int → Option Bool := fun i6 => its_f_74_2 N n (S_f_74_2 b w i6)
theorem fe_f_74_2 (N : Nat) : it_f_74_2 N = f_74_2 N := funext fun b => funext fun w => funext (lp_all (by kernel_rfl) fun n => by
 show _ = f_74_2r N (f_74_4 N) b w (it_f_74_2 N b w n)
 rw [show f_74_4 N = it_f_74_4 N from (fe_f_74_4 N).symm]
 kernel_rfl)
noncomputable def its_f_74_0 (N : Nat) (n : Nat) : St → Option Bool := fun S' => iter [] (annAt fi_f_74 0) (code (E_f_74 N) (lpIn fi_f_74.body 0 0) 0) n S' (contOf (E_f_74 N) fi_f_74.body 0 0 K_f_74)
noncomputable def it_f_74_0 (N : Nat) (b : Book) (w : Want) (n : Nat) : Int → Option Bool := fun i5 => its_f_74_0 N n (S_f_74_0 b w i5)
theorem fe_f_74_0 (N : Nat) : it_f_74_0 N = f_74_0 N := funext fun b => funext fun w => funext (lp_all (by kernel_rfl) fun n => by
 show _ = f_74_0r N (f_74_2 N) b w (it_f_74_0 N b w n)
 rw [show f_74_2 N = it_f_74_2 N from (fe_f_74_2 N).symm]
 kernel_rfl)
theorem run_f_74 (N : Nat) (b : Book) (w : Want) : runST (ofDs [.bool]) (tabOf tabL) (tabS (phiL_f_74 N)) inl0 N fi_f_74 sg_f_74 [⟨tBook, b⟩, ⟨tWant, w⟩] = F.f_74 N b w := by
 show _ = F.f_74b N (F.f_74_0 N) b w
 rw [← fe_f_74_0 N]
 kernel_rfl
def sm_f_74 (N : Nat) : Summ := summOf [.d tBook true, .d tWant true] false [.d (.bool) false] [.bool] (F.f_74 N)
theorem con_f_74 (N : Nat) : Contract Tryz.prog 105 (sm_f_74 N) := con_of (N := N) tabOK mixed (callOK_list (l := phiL_f_74 N) (allc rfl (con_f_89 N) (allc rfl (con_f_109 N) trivial))) (inl0_ok _) ok_f_74 (by decide) fun b w => run_f_74 N b w
def an_f_108 : Nat → Option Ann
 | 0 => some ⟨⟨[(0, kp), (1, kp), (5, kp)], [], []⟩, [(0, ⟨[], [], []⟩)], ⟨[(4, kp)], [], []⟩⟩
 | _ => none
noncomputable def fi_f_108 : FI := ⟨Tryz.f163.results.toList, bodyOf Tryz.f163.body, Tryz.f163.ntmps, an_f_108⟩
theorem ok_f_108 : FnOK Tryz.prog 163 fi_f_108 := ⟨⟨Tryz.f163, Tryz.func163, by kernel_rfl, rfl, rfl, by kernel_rfl⟩, by kernel_rfl⟩
def phiL_f_108 (N : Nat) : List (Nat × Summ) := [(102, sm_f_109 N)]
def sg_f_108 : Summ := sigOf [.d tTxts false, .d tTxts false] false [.d (.bool) false]
def S_f_108_0 (a : List Txt) (b : List Txt) (i5 : Int) : St := ⟨[(0, vv tTxts a), (1, vv tTxts b), (5, vv tInt i5)], []⟩
noncomputable def E_f_108 (N : Nat) : Env := envOf (tabOf tabL) (tabS (phiL_f_108 N)) inl0 N fi_f_108 []
noncomputable def K_f_108 := (kFun (tabOf tabL) fi_f_108.res (kT (ofDs [.bool]) sg_f_108 []))
noncomputable def its_f_108_0 (N : Nat) (n : Nat) : St → Option Bool := fun S' => iter [] (annAt fi_f_108 0) (code (E_f_108 N) (lpIn fi_f_108.body 0 0) 0) n S' (contOf (E_f_108 N) fi_f_108.body 0 0 K_f_108)
noncomputable def it_f_108_0 (N : Nat) (a : List Txt) (b : List Txt) (n : Nat) : Int → Option Bool := fun i5 => its_f_108_0 N n (S_f_108_0 a b i5)
theorem fe_f_108_0 (N : Nat) : it_f_108_0 N = f_108_0 N := funext fun a => funext fun b => funext (lp_all (by kernel_rfl) fun n => by
 show _ = f_108_0r N a b (it_f_108_0 N a b n)
 kernel_rfl)
theorem run_f_108 (N : Nat) (a : List Txt) (b : List Txt) : runST (ofDs [.bool]) (tabOf tabL) (tabS (phiL_f_108 N)) inl0 N fi_f_108 sg_f_108 [⟨tTxts, a⟩, ⟨tTxts, b⟩] = F.f_108 N a b := by
 show _ = F.f_108b N (F.f_108_0 N) a b
 rw [← fe_f_108_0 N]
 kernel_rfl
def sm_f_108 (N : Nat) : Summ := summOf [.d tTxts false, .d tTxts false] false [.d (.bool) false] [.bool] (F.f_108 N)
theorem con_f_108 (N : Nat) : Contract Tryz.prog 163 (sm_f_108 N) := con_of (N := N) tabOK mixed (callOK_list (l := phiL_f_108 N) (allc rfl (con_f_109 N) trivial)) (inl0_ok _) ok_f_108 (by decide) fun a b => run_f_108 N a b
def an_f_75 : Nat → Option Ann := fun _ => none
noncomputable def fi_f_75 : FI := ⟨Tryz.f181.results.toList, bodyOf Tryz.f181.body, Tryz.f181.ntmps, an_f_75⟩
theorem ok_f_75 : FnOK Tryz.prog 181 fi_f_75 := ⟨⟨Tryz.f181, Tryz.func181, by kernel_rfl, rfl, rfl, by kernel_rfl⟩, by kernel_rfl⟩
def phiL_f_75 (N : Nat) : List (Nat × Summ) := [(163, sm_f_108 N)]
def sg_f_75 : Summ := sigOf [.d tSpot true, .d tWant true, .d tUse true] false [.d (.bool) false]
theorem run_f_75 (N : Nat) (s : Spot) (w : Want) (u : Use) : runST (ofDs [.bool]) (tabOf tabL) (tabS (phiL_f_75 N)) inl0 N fi_f_75 sg_f_75 [⟨tSpot, s⟩, ⟨tWant, w⟩, ⟨tUse, u⟩] = F.f_75 N s w u := by kernel_rfl
def sm_f_75 (N : Nat) : Summ := summOf [.d tSpot true, .d tWant true, .d tUse true] false [.d (.bool) false] [.bool] (F.f_75 N)
theorem con_f_75 (N : Nat) : Contract Tryz.prog 181 (sm_f_75 N) := con_of (N := N) tabOK mixed (callOK_list (l := phiL_f_75 N) (allc rfl (con_f_108 N) trivial)) (inl0_ok _) ok_f_75 (by decide) fun s w u => run_f_75 N s w u
def an_f_62 : Nat → Option Ann
 | 0 => some ⟨⟨[(2, kp), (3, kp), (5, kp)], [(2, [kp, kp, kp, kp, kp]), (3, [kp, kp, kp, kp, kp, kp, kp])], []⟩, [(0, ⟨[], [], []⟩)], ⟨[(4, kp)], [], []⟩⟩
 | _ => none
noncomputable def fi_f_62 : FI := ⟨Tryz.f174.results.toList, bodyOf Tryz.f174.body, Tryz.f174.ntmps, an_f_62⟩
theorem ok_f_62 : FnOK Tryz.prog 174 fi_f_62 := ⟨⟨Tryz.f174, Tryz.func174, by kernel_rfl, rfl, rfl, by kernel_rfl⟩, by kernel_rfl⟩
def phiL_f_62 (N : Nat) : List (Nat × Summ) := [(47, sm_f_38 N), (105, sm_f_74 N), (62, sm_f_89 N), (181, sm_f_75 N)]
def sg_f_62 : Summ := sigOf [.d tBook true, .d tPart true] false [.d (.bool) false]
def S_f_62_0 (b : Book) (p : Part) (i5 : Int) : St := ⟨[(2, vb 2), (3, vb 3), (5, vv tInt i5)], [(2, .box [.v tFoe.slice b.1, .v tSpot.slice b.2.1, .v tTxts b.2.2.1, .v tPart.slice b.2.2.2.1, .v tInt b.2.2.2.2]), (3, .box [.v tInt p.1.1, .v tInt p.1.2.1, .v tTxts p.1.2.2.1, .v tUse.slice p.1.2.2.2.1, .v tTxts p.1.2.2.2.2.1, .v tTxts p.1.2.2.2.2.2, .v Ty.bool p.2])]⟩
noncomputable def E_f_62 (N : Nat) : Env := envOf (tabOf tabL) (tabS (phiL_f_62 N)) inl0 N fi_f_62 []
noncomputable def K_f_62 := (kFun (tabOf tabL) fi_f_62.res (kT (ofDs [.bool]) sg_f_62 []))
noncomputable def its_f_62_0 (N : Nat) (n : Nat) : St → Option Bool := fun S' => iter [] (annAt fi_f_62 0) (code (E_f_62 N) (lpIn fi_f_62.body 0 0) 0) n S' (contOf (E_f_62 N) fi_f_62.body 0 0 K_f_62)
noncomputable def it_f_62_0 (N : Nat) (b : Book) (p : Part) (n : Nat) : Int → Option Bool := fun i5 => its_f_62_0 N n (S_f_62_0 b p i5)
theorem fe_f_62_0 (N : Nat) : it_f_62_0 N = f_62_0 N := funext fun b => funext fun p => funext (lp_all (by kernel_rfl) fun n => by
 show _ = f_62_0r N b p (it_f_62_0 N b p n)
 kernel_rfl)
theorem run_f_62 (N : Nat) (b : Book) (p : Part) : runST (ofDs [.bool]) (tabOf tabL) (tabS (phiL_f_62 N)) inl0 N fi_f_62 sg_f_62 [⟨tBook, b⟩, ⟨tPart, p⟩] = F.f_62 N b p := by
 show _ = F.f_62b N (F.f_62_0 N) b p
 rw [← fe_f_62_0 N]
 kernel_rfl
def sm_f_62 (N : Nat) : Summ := summOf [.d tBook true, .d tPart true] false [.d (.bool) false] [.bool] (F.f_62 N)
theorem con_f_62 (N : Nat) : Contract Tryz.prog 174 (sm_f_62 N) := con_of (N := N) tabOK mixed (callOK_list (l := phiL_f_62 N) (allc rfl (con_f_38 N) (allc rfl (con_f_74 N) (allc rfl (con_f_89 N) (allc rfl (con_f_75 N) trivial))))) (inl0_ok _) ok_f_62 (by decide) fun b p => run_f_62 N b p
def an_f_90 : Nat → Option Ann
 | 0 => some ⟨⟨[(1, kp), (3, .own 700003 9 Ty.str), (4, kp)], [(1, [kp, kp, kp, kp, kp, kp])], []⟩, [(0, ⟨[(3, .own 700003 9 Ty.str)], [], []⟩)], ⟨[], [], []⟩⟩
 | _ => none
noncomputable def fi_f_90 : FI := ⟨Tryz.f108.results.toList, bodyOf Tryz.f108.body, Tryz.f108.ntmps, an_f_90⟩
theorem ok_f_90 : FnOK Tryz.prog 108 fi_f_90 := ⟨⟨Tryz.f108, Tryz.func108, by kernel_rfl, rfl, rfl, by kernel_rfl⟩, by kernel_rfl⟩
def phiL_f_90 (N : Nat) : List (Nat × Summ) := []
def sg_f_90 : Summ := sigOf [.d tWant true] false [.own tTxts false [(9, none)]]
def S_f_90_0 (w : Want) (i4 : Int) (out3a : List Txt) : St := ⟨[(1, vb 1), (3, va 700003), (4, vv tInt i4)], [(1, .box [.v tInt w.1, .v tInt w.2.1, .v tTxts w.2.2.1, .v tUse.slice w.2.2.2.1, .v tTxts w.2.2.2.2.1, .v tTxts w.2.2.2.2.2]), (700003, .arr 9 Ty.str out3a)]⟩
noncomputable def E_f_90 (N : Nat) : Env := envOf (tabOf tabL) (tabS (phiL_f_90 N)) inl0 N fi_f_90 []
noncomputable def K_f_90 := (kFun (tabOf tabL) fi_f_90.res (kT (ofDs [tTxts]) sg_f_90 []))
noncomputable def its_f_90_0 (N : Nat) (n : Nat) : St → Option (List Txt) := fun S' => iter [] (annAt fi_f_90 0) (code (E_f_90 N) (lpIn fi_f_90.body 0 0) 0) n S' (contOf (E_f_90 N) fi_f_90.body 0 0 K_f_90)
noncomputable def it_f_90_0 (N : Nat) (w : Want) (n : Nat) : Int → (List Txt) → Option (List Txt) := fun i4 out3a => its_f_90_0 N n (S_f_90_0 w i4 out3a)
theorem fe_f_90_0 (N : Nat) : it_f_90_0 N = f_90_0 N := funext fun w => funext (lp_all (by kernel_rfl) fun n => by
 show _ = f_90_0r N w (it_f_90_0 N w n)
 kernel_rfl)
theorem run_f_90 (N : Nat) (w : Want) : runST (ofDs [tTxts]) (tabOf tabL) (tabS (phiL_f_90 N)) inl0 N fi_f_90 sg_f_90 [⟨tWant, w⟩] = F.f_90 N w := by
 show _ = F.f_90b N (F.f_90_0 N) w
 rw [← fe_f_90_0 N]
 kernel_rfl
def sm_f_90 (N : Nat) : Summ := summOf [.d tWant true] false [.own tTxts false [(9, none)]] [tTxts] (F.f_90 N)
theorem con_f_90 (N : Nat) : Contract Tryz.prog 108 (sm_f_90 N) := con_of (N := N) tabOK mixed (callOK_list (l := phiL_f_90 N) trivial) (inl0_ok _) ok_f_90 (by decide) fun w => run_f_90 N w
def an_f_53 : Nat → Option Ann := fun _ => none
noncomputable def fi_f_53 : FI := ⟨Tryz.f109.results.toList, bodyOf Tryz.f109.body, Tryz.f109.ntmps, an_f_53⟩
theorem ok_f_53 : FnOK Tryz.prog 109 fi_f_53 := ⟨⟨Tryz.f109, Tryz.func109, by kernel_rfl, rfl, rfl, by kernel_rfl⟩, by kernel_rfl⟩
def phiL_f_53 (N : Nat) : List (Nat × Summ) := [(107, sm_f_72 N)]
def sg_f_53 : Summ := sigOf [.d tWant true, .d tWant true] false [.d (.bool) false]
theorem run_f_53 (N : Nat) (a : Want) (b : Want) : runST (ofDs [.bool]) (tabOf tabL) (tabS (phiL_f_53 N)) inl0 N fi_f_53 sg_f_53 [⟨tWant, a⟩, ⟨tWant, b⟩] = F.f_53 N a b := by kernel_rfl
def sm_f_53 (N : Nat) : Summ := summOf [.d tWant true, .d tWant true] false [.d (.bool) false] [.bool] (F.f_53 N)
theorem con_f_53 (N : Nat) : Contract Tryz.prog 109 (sm_f_53 N) := con_of (N := N) tabOK mixed (callOK_list (l := phiL_f_53 N) (allc rfl (con_f_72 N) trivial)) (inl0_ok _) ok_f_53 (by decide) fun a b => run_f_53 N a b
def an_f_54 : Nat → Option Ann
 | 0 => some ⟨⟨[(1, kp), (3, kp)], [(1, [kp, kp, kp, kp, kp])], []⟩, [(0, ⟨[], [], []⟩)], ⟨[(2, kp)], [], []⟩⟩
 | 2 => some ⟨⟨[(1, kp), (3, kp), (4, kp), (5, kp)], [(1, [kp, kp, kp, kp, kp]), (4, [kp, kp, kp, kp, kp, kp])], []⟩, [(2, ⟨[(1, kp), (3, kp)], [(1, [kp, kp, kp, kp, kp])], []⟩)], ⟨[(2, kp)], [], []⟩⟩
 | _ => none
noncomputable def fi_f_54 : FI := ⟨Tryz.f124.results.toList, bodyOf Tryz.f124.body, Tryz.f124.ntmps, an_f_54⟩
theorem ok_f_54 : FnOK Tryz.prog 124 fi_f_54 := ⟨⟨Tryz.f124, Tryz.func124, by kernel_rfl, rfl, rfl, by kernel_rfl⟩, by kernel_rfl⟩
def phiL_f_54 (N : Nat) : List (Nat × Summ) := [(174, sm_f_62 N), (108, sm_f_90 N), (107, sm_f_72 N), (109, sm_f_53 N)]
def sg_f_54 : Summ := sigOf [.d tBook true] false [.d (.bool) false]
def S_f_54_2 (b : Book) (i3 : Int) (w4c0 : Int) (w4c1 : Int) (w4c2 : List Txt) (w4c3 : List Use) (w4c4 : List Txt) (w4c5 : List Txt) (k5 : Int) : St := ⟨[(1, vb 1), (3, vv tInt i3), (4, vb 4), (5, vv tInt k5)], [(1, .box [.v tFoe.slice b.1, .v tSpot.slice b.2.1, .v tTxts b.2.2.1, .v tPart.slice b.2.2.2.1, .v tInt b.2.2.2.2]), (4, .box [.v tInt w4c0, .v tInt w4c1, .v tTxts w4c2, .v tUse.slice w4c3, .v tTxts w4c4, .v tTxts w4c5])]⟩
def S_f_54_0 (b : Book) (i3 : Int) : St := ⟨[(1, vb 1), (3, vv tInt i3)], [(1, .box [.v tFoe.slice b.1, .v tSpot.slice b.2.1, .v tTxts b.2.2.1, .v tPart.slice b.2.2.2.1, .v tInt b.2.2.2.2])]⟩
noncomputable def E_f_54 (N : Nat) : Env := envOf (tabOf tabL) (tabS (phiL_f_54 N)) inl0 N fi_f_54 []
noncomputable def K_f_54 := (kFun (tabOf tabL) fi_f_54.res (kT (ofDs [.bool]) sg_f_54 []))
noncomputable def its_f_54_2 (N : Nat) (nxS0 : St → Option Bool) (n : Nat) : St → Option Bool := fun S' => iter [] (annAt fi_f_54 2) (code (E_f_54 N) (lpIn (lpIn fi_f_54.body 0 0) 0 2) 2) n S' (contOf (E_f_54 N) (lpIn fi_f_54.body 0 0) 0 2 (kLoop [] (annAt fi_f_54 0) nxS0 (contOf (E_f_54 N) fi_f_54.body 0 0 K_f_54)))
noncomputable def it_f_54_2 (N : Nat) (nxS0 : St → Option Bool) (b : Book) (i3 : Int) (w4c0 : Int) (w4c1 : Int) (w4c2 : List Txt) (w4c3 : List Use) (w4c4 : List Txt) (w4c5 : List Txt) (n : Nat) : Int → Option Bool := fun k5 => its_f_54_2 N nxS0 n (S_f_54_2 b i3 w4c0 w4c1 w4c2 w4c3 w4c4 w4c5 k5)
theorem fe_f_54_2 (N : Nat) (nxS0 : St → Option Bool) (b : Book) : it_f_54_2 N nxS0 b = f_54_2 N (fun i3 => nxS0 (S_f_54_0 b i3)) b := funext fun i3 => funext fun w4c0 => funext fun w4c1 => funext fun w4c2 => funext fun w4c3 => funext fun w4c4 => funext fun w4c5 => funext (lp_all (by kernel_rfl) fun n => by
 show _ = f_54_2r N (fun i3 => nxS0 (S_f_54_0 b i3)) b i3 w4c0 w4c1 w4c2 w4c3 w4c4 w4c5 (it_f_54_2 N nxS0 b i3 w4c0 w4c1 w4c2 w4c3 w4c4 w4c5 n)
 kernel_rfl)
noncomputable def its_f_54_0 (N : Nat) (n : Nat) : St → Option Bool := fun S' => iter [] (annAt fi_f_54 0) (code (E_f_54 N) (lpIn fi_f_54.body 0 0) 0) n S' (contOf (E_f_54 N) fi_f_54.body 0 0 K_f_54)
noncomputable def it_f_54_0 (N : Nat) (b : Book) (n : Nat) : Int → Option Bool := fun i3 => its_f_54_0 N n (S_f_54_0 b i3)
theorem fe_f_54_0 (N : Nat) : it_f_54_0 N = f_54_0 N := funext fun b => funext (lp_all (by kernel_rfl) fun n => by
 show _ = f_54_0r N (f_54_2 N (it_f_54_0 N b n) b) b (it_f_54_0 N b n)
 rw [show f_54_2 N (it_f_54_0 N b n) b = it_f_54_2 N (its_f_54_0 N n) b from (fe_f_54_2 N (its_f_54_0 N n) b).symm]
 kernel_rfl)
theorem run_f_54 (N : Nat) (b : Book) : runST (ofDs [.bool]) (tabOf tabL) (tabS (phiL_f_54 N)) inl0 N fi_f_54 sg_f_54 [⟨tBook, b⟩] = F.f_54 N b := by
 show _ = F.f_54b N (F.f_54_0 N) b
 rw [← fe_f_54_0 N]
 kernel_rfl
def sm_f_54 (N : Nat) : Summ := summOf [.d tBook true] false [.d (.bool) false] [.bool] (F.f_54 N)
theorem con_f_54 (N : Nat) : Contract Tryz.prog 124 (sm_f_54 N) := con_of (N := N) tabOK mixed (callOK_list (l := phiL_f_54 N) (allc rfl (con_f_62 N) (allc rfl (con_f_90 N) (allc rfl (con_f_72 N) (allc rfl (con_f_53 N) trivial))))) (inl0_ok _) ok_f_54 (by decide) fun b => run_f_54 N b
def an_f_37 : Nat → Option Ann
 | 0 => some ⟨⟨[(1, kp), (3, kp)], [(1, [kp, kp, kp, kp, kp])], []⟩, [(0, ⟨[(1, kp)], [(1, [kp, kp, kp, kp, kp])], []⟩)], ⟨[(2, kp)], [], []⟩⟩
 | _ => none
noncomputable def fi_f_37 : FI := ⟨Tryz.f45.results.toList, bodyOf Tryz.f45.body, Tryz.f45.ntmps, an_f_37⟩
theorem ok_f_37 : FnOK Tryz.prog 45 fi_f_37 := ⟨⟨Tryz.f45, Tryz.func45, by kernel_rfl, rfl, rfl, by kernel_rfl⟩, by kernel_rfl⟩
def phiL_f_37 (N : Nat) : List (Nat × Summ) := [(121, sm_f_61 N), (122, sm_f_50 N), (67, sm_f_118 N), (123, sm_f_63 N), (124, sm_f_54 N)]
def sg_f_37 : Summ := sigOf [.d tBook true] false [.d (.bool) false]
def S_f_37_0 (b : Book) (i3 : Int) : St := ⟨[(1, vb 1), (3, vv tInt i3)], [(1, .box [.v tFoe.slice b.1, .v tSpot.slice b.2.1, .v tTxts b.2.2.1, .v tPart.slice b.2.2.2.1, .v tInt b.2.2.2.2])]⟩
noncomputable def E_f_37 (N : Nat) : Env := envOf (tabOf tabL) (tabS (phiL_f_37 N)) inl0 N fi_f_37 []
noncomputable def K_f_37 := (kFun (tabOf tabL) fi_f_37.res (kT (ofDs [.bool]) sg_f_37 []))
noncomputable def its_f_37_0 (N : Nat) (n : Nat) : St → Option Bool := fun S' => iter [] (annAt fi_f_37 0) (code (E_f_37 N) (lpIn fi_f_37.body 0 0) 0) n S' (contOf (E_f_37 N) fi_f_37.body 0 0 K_f_37)
noncomputable def it_f_37_0 (N : Nat) (b : Book) (n : Nat) : Int → Option Bool := fun i3 => its_f_37_0 N n (S_f_37_0 b i3)
theorem fe_f_37_0 (N : Nat) : it_f_37_0 N = f_37_0 N := funext fun b => funext (lp_all (by kernel_rfl) fun n => by
 show _ = f_37_0r N b (it_f_37_0 N b n)
 kernel_rfl)
theorem run_f_37 (N : Nat) (b : Book) : runST (ofDs [.bool]) (tabOf tabL) (tabS (phiL_f_37 N)) inl0 N fi_f_37 sg_f_37 [⟨tBook, b⟩] = F.f_37 N b := by
 show _ = F.f_37b N (F.f_37_0 N) b
 rw [← fe_f_37_0 N]
 kernel_rfl
def sm_f_37 (N : Nat) : Summ := summOf [.d tBook true] false [.d (.bool) false] [.bool] (F.f_37 N)
theorem con_f_37 (N : Nat) : Contract Tryz.prog 45 (sm_f_37 N) := con_of (N := N) tabOK mixed (callOK_list (l := phiL_f_37 N) (allc rfl (con_f_61 N) (allc rfl (con_f_50 N) (allc rfl (con_f_118 N) (allc rfl (con_f_63 N) (allc rfl (con_f_54 N) trivial)))))) (inl0_ok _) ok_f_37 (by decide) fun b => run_f_37 N b
def an_f_49 : Nat → Option Ann := fun _ => none
noncomputable def fi_f_49 : FI := ⟨Tryz.f13.results.toList, bodyOf Tryz.f13.body, Tryz.f13.ntmps, an_f_49⟩
theorem ok_f_49 : FnOK Tryz.prog 13 fi_f_49 := ⟨⟨Tryz.f13, Tryz.func13, by kernel_rfl, rfl, rfl, by kernel_rfl⟩, by kernel_rfl⟩
def phiL_f_49 (N : Nat) : List (Nat × Summ) := [(45, sm_f_37 N), (52, sm_f_86 N), (58, sm_f_88 N)]
def sg_f_49 : Summ := sigOf [.d tBook true, .d tInt false] false [.own tBook true [(106, none), (34, (some [9])), (9, none), (94, (some [9, 82, 9, 9]))], .d tInt false]
theorem run_f_49 (N : Nat) (b : Book) (number : Int) : runST (ofDs [tBook, tInt]) (tabOf tabL) (tabS (phiL_f_49 N)) inl0 N fi_f_49 sg_f_49 [⟨tBook, b⟩, ⟨tInt, number⟩] = F.f_49 N b number := by kernel_rfl
def sm_f_49 (N : Nat) : Summ := summOf [.d tBook true, .d tInt false] false [.own tBook true [(106, none), (34, (some [9])), (9, none), (94, (some [9, 82, 9, 9]))], .d tInt false] [tBook, tInt] (F.f_49 N)
theorem con_f_49 (N : Nat) : Contract Tryz.prog 13 (sm_f_49 N) := con_of (N := N) tabOK mixed (callOK_list (l := phiL_f_49 N) (allc rfl (con_f_37 N) (allc rfl (con_f_86 N) (allc rfl (con_f_88 N) trivial)))) (inl0_ok _) ok_f_49 (by decide) fun b number => run_f_49 N b number
def an_f_77 : Nat → Option Ann
 | 0 => some ⟨⟨[(1, kp), (2, kp), (5, kp)], [(2, [kp, kp, kp, kp, kp, kp])], []⟩, [(0, ⟨[], [], []⟩)], ⟨[(4, kp)], [], []⟩⟩
 | _ => none
noncomputable def fi_f_77 : FI := ⟨Tryz.f61.results.toList, bodyOf Tryz.f61.body, Tryz.f61.ntmps, an_f_77⟩
theorem ok_f_77 : FnOK Tryz.prog 61 fi_f_77 := ⟨⟨Tryz.f61, Tryz.func61, by kernel_rfl, rfl, rfl, by kernel_rfl⟩, by kernel_rfl⟩
def phiL_f_77 (N : Nat) : List (Nat × Summ) := []
def sg_f_77 : Summ := sigOf [.d tWant true, .d tInt false] false [.d (.bool) false]
def S_f_77_0 (w : Want) (moved : Int) (i5 : Int) : St := ⟨[(1, vv tInt moved), (2, vb 2), (5, vv tInt i5)], [(2, .box [.v tInt w.1, .v tInt w.2.1, .v tTxts w.2.2.1, .v tUse.slice w.2.2.2.1, .v tTxts w.2.2.2.2.1, .v tTxts w.2.2.2.2.2])]⟩
noncomputable def E_f_77 (N : Nat) : Env := envOf (tabOf tabL) (tabS (phiL_f_77 N)) inl0 N fi_f_77 []
noncomputable def K_f_77 := (kFun (tabOf tabL) fi_f_77.res (kT (ofDs [.bool]) sg_f_77 []))
noncomputable def its_f_77_0 (N : Nat) (n : Nat) : St → Option Bool := fun S' => iter [] (annAt fi_f_77 0) (code (E_f_77 N) (lpIn fi_f_77.body 0 0) 0) n S' (contOf (E_f_77 N) fi_f_77.body 0 0 K_f_77)
noncomputable def it_f_77_0 (N : Nat) (w : Want) (moved : Int) (n : Nat) : Int → Option Bool := fun i5 => its_f_77_0 N n (S_f_77_0 w moved i5)
theorem fe_f_77_0 (N : Nat) : it_f_77_0 N = f_77_0 N := funext fun w => funext fun moved => funext (lp_all (by kernel_rfl) fun n => by
 show _ = f_77_0r N w moved (it_f_77_0 N w moved n)
 kernel_rfl)
theorem run_f_77 (N : Nat) (w : Want) (moved : Int) : runST (ofDs [.bool]) (tabOf tabL) (tabS (phiL_f_77 N)) inl0 N fi_f_77 sg_f_77 [⟨tWant, w⟩, ⟨tInt, moved⟩] = F.f_77 N w moved := by
 show _ = F.f_77b N (F.f_77_0 N) w moved
 rw [← fe_f_77_0 N]
 kernel_rfl
def sm_f_77 (N : Nat) : Summ := summOf [.d tWant true, .d tInt false] false [.d (.bool) false] [.bool] (F.f_77 N)
theorem con_f_77 (N : Nat) : Contract Tryz.prog 61 (sm_f_77 N) := con_of (N := N) tabOK mixed (callOK_list (l := phiL_f_77 N) trivial) (inl0_ok _) ok_f_77 (by decide) fun w moved => run_f_77 N w moved
def an_f_66 : Nat → Option Ann := fun _ => none
noncomputable def fi_f_66 : FI := ⟨Tryz.f63.results.toList, bodyOf Tryz.f63.body, Tryz.f63.ntmps, an_f_66⟩
theorem ok_f_66 : FnOK Tryz.prog 63 fi_f_66 := ⟨⟨Tryz.f63, Tryz.func63, by kernel_rfl, rfl, rfl, by kernel_rfl⟩, by kernel_rfl⟩
def phiL_f_66 (N : Nat) : List (Nat × Summ) := []
def sg_f_66 : Summ := sigOf [.d tSpot true, .d tWant true, .d tUse true, .d tInt false, .d (.bool) false] true [.d tSpot true]
theorem run_f_66 (N : Nat) (s : Spot) (w : Want) (u : Use) (moved : Int) (done : Bool) : runST (ofDs [tSpot]) (tabOf tabL) (tabS (phiL_f_66 N)) inl0 N fi_f_66 sg_f_66 [⟨tSpot, s⟩, ⟨tWant, w⟩, ⟨tUse, u⟩, ⟨tInt, moved⟩, ⟨.bool, done⟩] = F.f_66 N s w u moved done := by kernel_rfl
def sm_f_66 (N : Nat) : Summ := summOf [.d tSpot true, .d tWant true, .d tUse true, .d tInt false, .d (.bool) false] true [.d tSpot true] [tSpot] (F.f_66 N)
theorem con_f_66 (N : Nat) : Contract Tryz.prog 63 (sm_f_66 N) := con_of (N := N) tabOK mixed (callOK_list (l := phiL_f_66 N) trivial) (inl0_ok _) ok_f_66 (by decide) fun s w u moved done => run_f_66 N s w u moved done
def an_f_48 : Nat → Option Ann
 | 0 => some ⟨⟨[(2, kp), (3, kp), (4, kp), (8, kp), (10, kp), (11, kp), (12, kp), (13, kp)], [(4, [kp, kp, kp, kp, kp]), (8, [kp, kp, kp, kp, kp]), (10, [.own 1001000 106 tFoe, .own 1001001 34 tSpot, .own 1001002 9 Ty.str, Dir.frz tPart, kp]), (12, [kp, kp, kp, kp, kp, kp])], []⟩, [(0, ⟨[(8, kp), (10, kp), (11, kp)], [(8, [kp, kp, kp, kp, kp]), (10, [.own 1001000 106 tFoe, .own 1001001 34 tSpot, .own 1001002 9 Ty.str, Dir.frz tPart, kp])], []⟩)], ⟨[], [], []⟩⟩
 | _ => none
noncomputable def fi_f_48 : FI := ⟨Tryz.f15.results.toList, bodyOf Tryz.f15.body, Tryz.f15.ntmps, an_f_48⟩
theorem ok_f_48 : FnOK Tryz.prog 15 fi_f_48 := ⟨⟨Tryz.f15, Tryz.func15, by kernel_rfl, rfl, rfl, by kernel_rfl⟩, by kernel_rfl⟩
def phiL_f_48 (N : Nat) : List (Nat × Summ) := [(45, sm_f_37 N), (52, sm_f_86 N), (58, sm_f_88 N), (61, sm_f_77 N), (62, sm_f_89 N), (63, sm_f_66 N)]
def sg_f_48 : Summ := sigOf [.d tBook true, .d tInt false, .d tInt false, .d (.bool) false] false [.own tBook true [(106, none), (34, (some [9])), (9, none), (94, (some [9, 82, 9, 9]))], .d tInt false]
def S_f_48_0 (b : Book) (moved : Int) (done : Bool) (r_1 : Book) (r_2 : Int) (t8c4 : Int) (w12c0 : Int) (w12c1 : Int) (w12c2 : List Txt) (w12c3 : List Use) (w12c4 : List Txt) (w12c5 : List Txt) (i13 : Int) (x10c1a : List Spot) : St := ⟨[(2, vv tInt moved), (3, vv Ty.bool done), (4, vb 4), (8, vb 8), (10, vb 10), (11, vv tInt r_2), (12, vb 12), (13, vv tInt i13)], [(4, .box [.v tFoe.slice b.1, .v tSpot.slice b.2.1, .v tTxts b.2.2.1, .v tPart.slice b.2.2.2.1, .v tInt b.2.2.2.2]), (8, .box [.emp, .emp, .emp, .emp, .v tInt t8c4]), (10, .box [.arr 1001000, .arr 1001001, .arr 1001002, .v tPart.slice r_1.2.2.2.1, .v tInt r_1.2.2.2.2]), (12, .box [.v tInt w12c0, .v tInt w12c1, .v tTxts w12c2, .v tUse.slice w12c3, .v tTxts w12c4, .v tTxts w12c5]), (1001000, .arr 106 tFoe r_1.1), (1001001, .arr 34 tSpot x10c1a), (1001002, .arr 9 Ty.str r_1.2.2.1)]⟩
noncomputable def E_f_48 (N : Nat) : Env := envOf (tabOf tabL) (tabS (phiL_f_48 N)) inl0 N fi_f_48 []
noncomputable def K_f_48 := (kFun (tabOf tabL) fi_f_48.res (kT (ofDs [tBook, tInt]) sg_f_48 []))
noncomputable def its_f_48_0 (N : Nat) (n : Nat) : St → Option (Book × Int) := fun S' => iter [] (annAt fi_f_48 0) (code (E_f_48 N) (lpIn fi_f_48.body 0 0) 0) n S' (contOf (E_f_48 N) fi_f_48.body 0 0 K_f_48)
noncomputable def it_f_48_0 (N : Nat) (b : Book) (moved : Int) (done : Bool) (r_1 : Book) (r_2 : Int) (t8c4 : Int) (w12c0 : Int) (w12c1 : Int) (w12c2 : List Txt) (w12c3 : List Use) (w12c4 : List Txt) (w12c5 : List Txt) (n : Nat) : Int → (List Spot) → Option (Book × Int) := fun i13 x10c1a => its_f_48_0 N n (S_f_48_0 b moved done r_1 r_2 t8c4 w12c0 w12c1 w12c2 w12c3 w12c4 w12c5 i13 x10c1a)
theorem fe_f_48_0 (N : Nat) : it_f_48_0 N = f_48_0 N := funext fun b => funext fun moved => funext fun done => funext fun r_1 => funext fun r_2 => funext fun t8c4 => funext fun w12c0 => funext fun w12c1 => funext fun w12c2 => funext fun w12c3 => funext fun w12c4 => funext fun w12c5 => funext (lp_all (by kernel_rfl) fun n => by
 show _ = f_48_0r N b moved done r_1 r_2 t8c4 w12c0 w12c1 w12c2 w12c3 w12c4 w12c5 (it_f_48_0 N b moved done r_1 r_2 t8c4 w12c0 w12c1 w12c2 w12c3 w12c4 w12c5 n)
 kernel_rfl)
theorem run_f_48 (N : Nat) (b : Book) (number : Int) (moved : Int) (done : Bool) : runST (ofDs [tBook, tInt]) (tabOf tabL) (tabS (phiL_f_48 N)) inl0 N fi_f_48 sg_f_48 [⟨tBook, b⟩, ⟨tInt, number⟩, ⟨tInt, moved⟩, ⟨.bool, done⟩] = F.f_48 N b number moved done := by
 show _ = F.f_48b N (F.f_48_0 N) b number moved done
 rw [← fe_f_48_0 N]
 kernel_rfl
def sm_f_48 (N : Nat) : Summ := summOf [.d tBook true, .d tInt false, .d tInt false, .d (.bool) false] false [.own tBook true [(106, none), (34, (some [9])), (9, none), (94, (some [9, 82, 9, 9]))], .d tInt false] [tBook, tInt] (F.f_48 N)
theorem con_f_48 (N : Nat) : Contract Tryz.prog 15 (sm_f_48 N) := con_of (N := N) tabOK mixed (callOK_list (l := phiL_f_48 N) (allc rfl (con_f_37 N) (allc rfl (con_f_86 N) (allc rfl (con_f_88 N) (allc rfl (con_f_77 N) (allc rfl (con_f_89 N) (allc rfl (con_f_66 N) trivial))))))) (inl0_ok _) ok_f_48 (by decide) fun b number moved done => run_f_48 N b number moved done
def an_f_69 : Nat → Option Ann
 | 0 => some ⟨⟨[(0, kp), (1, kp), (5, kp)], [], []⟩, [(0, ⟨[], [], []⟩)], ⟨[(4, kp)], [], []⟩⟩
 | _ => none
noncomputable def fi_f_69 : FI := ⟨Tryz.f161.results.toList, bodyOf Tryz.f161.body, Tryz.f161.ntmps, an_f_69⟩
theorem ok_f_69 : FnOK Tryz.prog 161 fi_f_69 := ⟨⟨Tryz.f161, Tryz.func161, by kernel_rfl, rfl, rfl, by kernel_rfl⟩, by kernel_rfl⟩
def phiL_f_69 (N : Nat) : List (Nat × Summ) := []
def sg_f_69 : Summ := sigOf [.d tTxts false, .d tTxts false] false [.d (.bool) false]
def S_f_69_0 (a : List Txt) (b : List Txt) (i5 : Int) : St := ⟨[(0, vv tTxts a), (1, vv tTxts b), (5, vv tInt i5)], []⟩
noncomputable def E_f_69 (N : Nat) : Env := envOf (tabOf tabL) (tabS (phiL_f_69 N)) inl0 N fi_f_69 []
noncomputable def K_f_69 := (kFun (tabOf tabL) fi_f_69.res (kT (ofDs [.bool]) sg_f_69 []))
noncomputable def its_f_69_0 (N : Nat) (n : Nat) : St → Option Bool := fun S' => iter [] (annAt fi_f_69 0) (code (E_f_69 N) (lpIn fi_f_69.body 0 0) 0) n S' (contOf (E_f_69 N) fi_f_69.body 0 0 K_f_69)
noncomputable def it_f_69_0 (N : Nat) (a : List Txt) (b : List Txt) (n : Nat) : Int → Option Bool := fun i5 => its_f_69_0 N n (S_f_69_0 a b i5)
theorem fe_f_69_0 (N : Nat) : it_f_69_0 N = f_69_0 N := funext fun a => funext fun b => funext (lp_all (by kernel_rfl) fun n => by
 show _ = f_69_0r N a b (it_f_69_0 N a b n)
 kernel_rfl)
theorem run_f_69 (N : Nat) (a : List Txt) (b : List Txt) : runST (ofDs [.bool]) (tabOf tabL) (tabS (phiL_f_69 N)) inl0 N fi_f_69 sg_f_69 [⟨tTxts, a⟩, ⟨tTxts, b⟩] = F.f_69 N a b := by
 show _ = F.f_69b N (F.f_69_0 N) a b
 rw [← fe_f_69_0 N]
 kernel_rfl
def sm_f_69 (N : Nat) : Summ := summOf [.d tTxts false, .d tTxts false] false [.d (.bool) false] [.bool] (F.f_69 N)
theorem con_f_69 (N : Nat) : Contract Tryz.prog 161 (sm_f_69 N) := con_of (N := N) tabOK mixed (callOK_list (l := phiL_f_69 N) trivial) (inl0_ok _) ok_f_69 (by decide) fun a b => run_f_69 N a b
def an_f_84 : Nat → Option Ann
 | 0 => some ⟨⟨[(2, kp), (3, kp), (5, kp)], [(2, [kp, kp, kp, kp, kp, kp]), (3, [kp, kp, kp, kp, kp, kp])], []⟩, [(0, ⟨[], [], []⟩)], ⟨[(4, kp)], [], []⟩⟩
 | _ => none
noncomputable def fi_f_84 : FI := ⟨Tryz.f106.results.toList, bodyOf Tryz.f106.body, Tryz.f106.ntmps, an_f_84⟩
theorem ok_f_84 : FnOK Tryz.prog 106 fi_f_84 := ⟨⟨Tryz.f106, Tryz.func106, by kernel_rfl, rfl, rfl, by kernel_rfl⟩, by kernel_rfl⟩
def phiL_f_84 (N : Nat) : List (Nat × Summ) := [(161, sm_f_69 N)]
def sg_f_84 : Summ := sigOf [.d tWant true, .d tWant true] false [.d (.bool) false]
def S_f_84_0 (a : Want) (b : Want) (i5 : Int) : St := ⟨[(2, vb 2), (3, vb 3), (5, vv tInt i5)], [(2, .box [.v tInt a.1, .v tInt a.2.1, .v tTxts a.2.2.1, .v tUse.slice a.2.2.2.1, .v tTxts a.2.2.2.2.1, .v tTxts a.2.2.2.2.2]), (3, .box [.v tInt b.1, .v tInt b.2.1, .v tTxts b.2.2.1, .v tUse.slice b.2.2.2.1, .v tTxts b.2.2.2.2.1, .v tTxts b.2.2.2.2.2])]⟩
noncomputable def E_f_84 (N : Nat) : Env := envOf (tabOf tabL) (tabS (phiL_f_84 N)) inl0 N fi_f_84 []
noncomputable def K_f_84 := (kFun (tabOf tabL) fi_f_84.res (kT (ofDs [.bool]) sg_f_84 []))
noncomputable def its_f_84_0 (N : Nat) (n : Nat) : St → Option Bool := fun S' => iter [] (annAt fi_f_84 0) (code (E_f_84 N) (lpIn fi_f_84.body 0 0) 0) n S' (contOf (E_f_84 N) fi_f_84.body 0 0 K_f_84)
noncomputable def it_f_84_0 (N : Nat) (a : Want) (b : Want) (n : Nat) : Int → Option Bool := fun i5 => its_f_84_0 N n (S_f_84_0 a b i5)
theorem fe_f_84_0 (N : Nat) : it_f_84_0 N = f_84_0 N := funext fun a => funext fun b => funext (lp_all (by kernel_rfl) fun n => by
 show _ = f_84_0r N a b (it_f_84_0 N a b n)
 kernel_rfl)
theorem run_f_84 (N : Nat) (a : Want) (b : Want) : runST (ofDs [.bool]) (tabOf tabL) (tabS (phiL_f_84 N)) inl0 N fi_f_84 sg_f_84 [⟨tWant, a⟩, ⟨tWant, b⟩] = F.f_84 N a b := by
 show _ = F.f_84b N (F.f_84_0 N) a b
 rw [← fe_f_84_0 N]
 kernel_rfl
def sm_f_84 (N : Nat) : Summ := summOf [.d tWant true, .d tWant true] false [.d (.bool) false] [.bool] (F.f_84 N)
theorem con_f_84 (N : Nat) : Contract Tryz.prog 106 (sm_f_84 N) := con_of (N := N) tabOK mixed (callOK_list (l := phiL_f_84 N) (allc rfl (con_f_69 N) trivial)) (inl0_ok _) ok_f_84 (by decide) fun a b => run_f_84 N a b
def an_f_52 : Nat → Option Ann
 | 0 => some ⟨⟨[(1, kp), (2, kp), (3, kp), (7, kp)], [(3, [kp, kp, kp, kp, kp])], []⟩, [(0, ⟨[], [], []⟩)], ⟨[(6, kp)], [], []⟩⟩
 | _ => none
noncomputable def fi_f_52 : FI := ⟨Tryz.f162.results.toList, bodyOf Tryz.f162.body, Tryz.f162.ntmps, an_f_52⟩
theorem ok_f_52 : FnOK Tryz.prog 162 fi_f_52 := ⟨⟨Tryz.f162, Tryz.func162, by kernel_rfl, rfl, rfl, by kernel_rfl⟩, by kernel_rfl⟩
def phiL_f_52 (N : Nat) : List (Nat × Summ) := [(173, sm_f_73 N)]
def sg_f_52 : Summ := sigOf [.d tBook true, .d tTxts false, .d tTxts false] false [.d (.bool) false]
def S_f_52_0 (b : Book) (x : List Txt) (y : List Txt) (i7 : Int) : St := ⟨[(1, vv tTxts x), (2, vv tTxts y), (3, vb 3), (7, vv tInt i7)], [(3, .box [.v tFoe.slice b.1, .v tSpot.slice b.2.1, .v tTxts b.2.2.1, .v tPart.slice b.2.2.2.1, .v tInt b.2.2.2.2])]⟩
noncomputable def E_f_52 (N : Nat) : Env := envOf (tabOf tabL) (tabS (phiL_f_52 N)) inl0 N fi_f_52 []
noncomputable def K_f_52 := (kFun (tabOf tabL) fi_f_52.res (kT (ofDs [.bool]) sg_f_52 []))
noncomputable def its_f_52_0 (N : Nat) (n : Nat) : St → Option Bool := fun S' => iter [] (annAt fi_f_52 0) (code (E_f_52 N) (lpIn fi_f_52.body 0 0) 0) n S' (contOf (E_f_52 N) fi_f_52.body 0 0 K_f_52)
noncomputable def it_f_52_0 (N : Nat) (b : Book) (x : List Txt) (y : List Txt) (n : Nat) : Int → Option Bool := fun i7 => its_f_52_0 N n (S_f_52_0 b x y i7)
theorem fe_f_52_0 (N : Nat) : it_f_52_0 N = f_52_0 N := funext fun b => funext fun x => funext fun y => funext (lp_all (by kernel_rfl) fun n => by
 show _ = f_52_0r N b x y (it_f_52_0 N b x y n)
 kernel_rfl)
theorem run_f_52 (N : Nat) (b : Book) (x : List Txt) (y : List Txt) : runST (ofDs [.bool]) (tabOf tabL) (tabS (phiL_f_52 N)) inl0 N fi_f_52 sg_f_52 [⟨tBook, b⟩, ⟨tTxts, x⟩, ⟨tTxts, y⟩] = F.f_52 N b x y := by
 show _ = F.f_52b N (F.f_52_0 N) b x y
 rw [← fe_f_52_0 N]
 kernel_rfl
def sm_f_52 (N : Nat) : Summ := summOf [.d tBook true, .d tTxts false, .d tTxts false] false [.d (.bool) false] [.bool] (F.f_52 N)
theorem con_f_52 (N : Nat) : Contract Tryz.prog 162 (sm_f_52 N) := con_of (N := N) tabOK mixed (callOK_list (l := phiL_f_52 N) (allc rfl (con_f_73 N) trivial)) (inl0_ok _) ok_f_52 (by decide) fun b x y => run_f_52 N b x y
def an_f_76 : Nat → Option Ann
 | 0 => some ⟨⟨[(0, kp), (1, kp), (5, kp), (6, kp)], [], []⟩, [(0, ⟨[(5, kp)], [], []⟩)], ⟨[], [], []⟩⟩
 | _ => none
noncomputable def fi_f_76 : FI := ⟨Tryz.f164.results.toList, bodyOf Tryz.f164.body, Tryz.f164.ntmps, an_f_76⟩
theorem ok_f_76 : FnOK Tryz.prog 164 fi_f_76 := ⟨⟨Tryz.f164, Tryz.func164, by kernel_rfl, rfl, rfl, by kernel_rfl⟩, by kernel_rfl⟩
def phiL_f_76 (N : Nat) : List (Nat × Summ) := [(102, sm_f_109 N)]
def sg_f_76 : Summ := sigOf [.d tTxts false, .d tTxts false] false [.d tInt false]
def S_f_76_0 (a : List Txt) (b : List Txt) (n5 : Int) (i6 : Int) : St := ⟨[(0, vv tTxts a), (1, vv tTxts b), (5, vv tInt n5), (6, vv tInt i6)], []⟩
noncomputable def E_f_76 (N : Nat) : Env := envOf (tabOf tabL) (tabS (phiL_f_76 N)) inl0 N fi_f_76 []
noncomputable def K_f_76 := (kFun (tabOf tabL) fi_f_76.res (kT (ofDs [tInt]) sg_f_76 []))
noncomputable def its_f_76_0 (N : Nat) (n : Nat) : St → Option Int := fun S' => iter [] (annAt fi_f_76 0) (code (E_f_76 N) (lpIn fi_f_76.body 0 0) 0) n S' (contOf (E_f_76 N) fi_f_76.body 0 0 K_f_76)
noncomputable def it_f_76_0 (N : Nat) (a : List Txt) (b : List Txt) (n : Nat) : Int → Int → Option Int := fun n5 i6 => its_f_76_0 N n (S_f_76_0 a b n5 i6)
theorem fe_f_76_0 (N : Nat) : it_f_76_0 N = f_76_0 N := funext fun a => funext fun b => funext (lp_all (by kernel_rfl) fun n => by
 show _ = f_76_0r N a b (it_f_76_0 N a b n)
 kernel_rfl)
theorem run_f_76 (N : Nat) (a : List Txt) (b : List Txt) : runST (ofDs [tInt]) (tabOf tabL) (tabS (phiL_f_76 N)) inl0 N fi_f_76 sg_f_76 [⟨tTxts, a⟩, ⟨tTxts, b⟩] = F.f_76 N a b := by
 show _ = F.f_76b N (F.f_76_0 N) a b
 rw [← fe_f_76_0 N]
 kernel_rfl
def sm_f_76 (N : Nat) : Summ := summOf [.d tTxts false, .d tTxts false] false [.d tInt false] [tInt] (F.f_76 N)
theorem con_f_76 (N : Nat) : Contract Tryz.prog 164 (sm_f_76 N) := con_of (N := N) tabOK mixed (callOK_list (l := phiL_f_76 N) (allc rfl (con_f_109 N) trivial)) (inl0_ok _) ok_f_76 (by decide) fun a b => run_f_76 N a b
def an_f_65 : Nat → Option Ann
 | 0 => some ⟨⟨[(2, kp), (3, kp), (5, kp)], [(2, [kp, kp, kp, kp, kp]), (3, [kp, kp, kp, kp, kp, kp])], []⟩, [(0, ⟨[], [], []⟩)], ⟨[(4, kp)], [], []⟩⟩
 | _ => none
noncomputable def fi_f_65 : FI := ⟨Tryz.f110.results.toList, bodyOf Tryz.f110.body, Tryz.f110.ntmps, an_f_65⟩
theorem ok_f_65 : FnOK Tryz.prog 110 fi_f_65 := ⟨⟨Tryz.f110, Tryz.func110, by kernel_rfl, rfl, rfl, by kernel_rfl⟩, by kernel_rfl⟩
def phiL_f_65 (N : Nat) : List (Nat × Summ) := [(162, sm_f_52 N), (62, sm_f_89 N), (163, sm_f_108 N), (164, sm_f_76 N)]
def sg_f_65 : Summ := sigOf [.d tBook true, .d tWant true] false [.d tInt false]
def S_f_65_0 (b : Book) (w : Want) (i5 : Int) : St := ⟨[(2, vb 2), (3, vb 3), (5, vv tInt i5)], [(2, .box [.v tFoe.slice b.1, .v tSpot.slice b.2.1, .v tTxts b.2.2.1, .v tPart.slice b.2.2.2.1, .v tInt b.2.2.2.2]), (3, .box [.v tInt w.1, .v tInt w.2.1, .v tTxts w.2.2.1, .v tUse.slice w.2.2.2.1, .v tTxts w.2.2.2.2.1, .v tTxts w.2.2.2.2.2])]⟩
noncomputable def E_f_65 (N : Nat) : Env := envOf (tabOf tabL) (tabS (phiL_f_65 N)) inl0 N fi_f_65 []
noncomputable def K_f_65 := (kFun (tabOf tabL) fi_f_65.res (kT (ofDs [tInt]) sg_f_65 []))
noncomputable def its_f_65_0 (N : Nat) (n : Nat) : St → Option Int := fun S' => iter [] (annAt fi_f_65 0) (code (E_f_65 N) (lpIn fi_f_65.body 0 0) 0) n S' (contOf (E_f_65 N) fi_f_65.body 0 0 K_f_65)
noncomputable def it_f_65_0 (N : Nat) (b : Book) (w : Want) (n : Nat) : Int → Option Int := fun i5 => its_f_65_0 N n (S_f_65_0 b w i5)
theorem fe_f_65_0 (N : Nat) : it_f_65_0 N = f_65_0 N := funext fun b => funext fun w => funext (lp_all (by kernel_rfl) fun n => by
 show _ = f_65_0r N b w (it_f_65_0 N b w n)
 kernel_rfl)
theorem run_f_65 (N : Nat) (b : Book) (w : Want) : runST (ofDs [tInt]) (tabOf tabL) (tabS (phiL_f_65 N)) inl0 N fi_f_65 sg_f_65 [⟨tBook, b⟩, ⟨tWant, w⟩] = F.f_65 N b w := by
 show _ = F.f_65b N (F.f_65_0 N) b w
 rw [← fe_f_65_0 N]
 kernel_rfl
def sm_f_65 (N : Nat) : Summ := summOf [.d tBook true, .d tWant true] false [.d tInt false] [tInt] (F.f_65 N)
theorem con_f_65 (N : Nat) : Contract Tryz.prog 110 (sm_f_65 N) := con_of (N := N) tabOK mixed (callOK_list (l := phiL_f_65 N) (allc rfl (con_f_52 N) (allc rfl (con_f_89 N) (allc rfl (con_f_108 N) (allc rfl (con_f_76 N) trivial))))) (inl0_ok _) ok_f_65 (by decide) fun b w => run_f_65 N b w
def an_f_55 : Nat → Option Ann
 | 0 => some ⟨⟨[(2, kp), (3, kp), (5, kp)], [(2, [kp, kp, kp, kp, kp]), (3, [kp, kp, kp, kp, kp, kp])], []⟩, [(0, ⟨[], [], []⟩)], ⟨[(4, kp)], [], []⟩⟩
 | _ => none
noncomputable def fi_f_55 : FI := ⟨Tryz.f111.results.toList, bodyOf Tryz.f111.body, Tryz.f111.ntmps, an_f_55⟩
theorem ok_f_55 : FnOK Tryz.prog 111 fi_f_55 := ⟨⟨Tryz.f111, Tryz.func111, by kernel_rfl, rfl, rfl, by kernel_rfl⟩, by kernel_rfl⟩
def phiL_f_55 (N : Nat) : List (Nat × Summ) := [(62, sm_f_89 N)]
def sg_f_55 : Summ := sigOf [.d tBook true, .d tWant true] false [.d tInt false]
def S_f_55_0 (b : Book) (w : Want) (i5 : Int) : St := ⟨[(2, vb 2), (3, vb 3), (5, vv tInt i5)], [(2, .box [.v tFoe.slice b.1, .v tSpot.slice b.2.1, .v tTxts b.2.2.1, .v tPart.slice b.2.2.2.1, .v tInt b.2.2.2.2]), (3, .box [.v tInt w.1, .v tInt w.2.1, .v tTxts w.2.2.1, .v tUse.slice w.2.2.2.1, .v tTxts w.2.2.2.2.1, .v tTxts w.2.2.2.2.2])]⟩
noncomputable def E_f_55 (N : Nat) : Env := envOf (tabOf tabL) (tabS (phiL_f_55 N)) inl0 N fi_f_55 []
noncomputable def K_f_55 := (kFun (tabOf tabL) fi_f_55.res (kT (ofDs [tInt]) sg_f_55 []))
noncomputable def its_f_55_0 (N : Nat) (n : Nat) : St → Option Int := fun S' => iter [] (annAt fi_f_55 0) (code (E_f_55 N) (lpIn fi_f_55.body 0 0) 0) n S' (contOf (E_f_55 N) fi_f_55.body 0 0 K_f_55)
noncomputable def it_f_55_0 (N : Nat) (b : Book) (w : Want) (n : Nat) : Int → Option Int := fun i5 => its_f_55_0 N n (S_f_55_0 b w i5)
theorem fe_f_55_0 (N : Nat) : it_f_55_0 N = f_55_0 N := funext fun b => funext fun w => funext (lp_all (by kernel_rfl) fun n => by
 show _ = f_55_0r N b w (it_f_55_0 N b w n)
 kernel_rfl)
theorem run_f_55 (N : Nat) (b : Book) (w : Want) : runST (ofDs [tInt]) (tabOf tabL) (tabS (phiL_f_55 N)) inl0 N fi_f_55 sg_f_55 [⟨tBook, b⟩, ⟨tWant, w⟩] = F.f_55 N b w := by
 show _ = F.f_55b N (F.f_55_0 N) b w
 rw [← fe_f_55_0 N]
 kernel_rfl
def sm_f_55 (N : Nat) : Summ := summOf [.d tBook true, .d tWant true] false [.d tInt false] [tInt] (F.f_55 N)
theorem con_f_55 (N : Nat) : Contract Tryz.prog 111 (sm_f_55 N) := con_of (N := N) tabOK mixed (callOK_list (l := phiL_f_55 N) (allc rfl (con_f_89 N) trivial)) (inl0_ok _) ok_f_55 (by decide) fun b w => run_f_55 N b w
def an_f_47 : Nat → Option Ann
 | 0 => some ⟨⟨[(2, kp), (3, kp), (6, kp)], [(2, [kp, kp, kp, kp, kp]), (3, [kp, kp, kp, kp, kp, kp])], []⟩, [(0, ⟨[(2, kp), (3, kp)], [(2, [kp, kp, kp, kp, kp]), (3, [kp, kp, kp, kp, kp, kp])], []⟩)], ⟨[(4, kp)], [], []⟩⟩
 | 2 => some ⟨⟨[(2, kp), (3, kp), (7, kp)], [(2, [kp, kp, kp, kp, kp]), (3, [kp, kp, kp, kp, kp, kp])], []⟩, [(2, ⟨[(2, kp), (3, kp)], [(2, [kp, kp, kp, kp, kp]), (3, [kp, kp, kp, kp, kp, kp])], []⟩)], ⟨[(4, kp)], [], []⟩⟩
 | _ => none
noncomputable def fi_f_47 : FI := ⟨Tryz.f38.results.toList, bodyOf Tryz.f38.body, Tryz.f38.ntmps, an_f_47⟩
theorem ok_f_47 : FnOK Tryz.prog 38 fi_f_47 := ⟨⟨Tryz.f38, Tryz.func38, by kernel_rfl, rfl, rfl, by kernel_rfl⟩, by kernel_rfl⟩
def phiL_f_47 (N : Nat) : List (Nat × Summ) := [(45, sm_f_37 N), (47, sm_f_38 N), (105, sm_f_74 N), (58, sm_f_88 N), (106, sm_f_84 N), (108, sm_f_90 N), (107, sm_f_72 N), (109, sm_f_53 N), (110, sm_f_65 N), (111, sm_f_55 N)]
def sg_f_47 : Summ := sigOf [.d tBook true, .d tWant true] false [.d tInt false]
def S_f_47_2 (b : Book) (w : Want) (i7 : Int) : St := ⟨[(2, vb 2), (3, vb 3), (7, vv tInt i7)], [(2, .box [.v tFoe.slice b.1, .v tSpot.slice b.2.1, .v tTxts b.2.2.1, .v tPart.slice b.2.2.2.1, .v tInt b.2.2.2.2]), (3, .box [.v tInt w.1, .v tInt w.2.1, .v tTxts w.2.2.1, .v tUse.slice w.2.2.2.1, .v tTxts w.2.2.2.2.1, .v tTxts w.2.2.2.2.2])]⟩
def S_f_47_0 (b : Book) (w : Want) (i6 : Int) : St := ⟨[(2, vb 2), (3, vb 3), (6, vv tInt i6)], [(2, .box [.v tFoe.slice b.1, .v tSpot.slice b.2.1, .v tTxts b.2.2.1, .v tPart.slice b.2.2.2.1, .v tInt b.2.2.2.2]), (3, .box [.v tInt w.1, .v tInt w.2.1, .v tTxts w.2.2.1, .v tUse.slice w.2.2.2.1, .v tTxts w.2.2.2.2.1, .v tTxts w.2.2.2.2.2])]⟩
noncomputable def E_f_47 (N : Nat) : Env := envOf (tabOf tabL) (tabS (phiL_f_47 N)) inl0 N fi_f_47 []
noncomputable def K_f_47 := (kFun (tabOf tabL) fi_f_47.res (kT (ofDs [tInt]) sg_f_47 []))
noncomputable def its_f_47_2 (N : Nat) (n : Nat) : St → Option Int := fun S' => iter [] (annAt fi_f_47 2) (code (E_f_47 N) (lpIn fi_f_47.body 0 2) 2) n S' (contOf (E_f_47 N) fi_f_47.body 0 2 K_f_47)
noncomputable def it_f_47_2 (N : Nat) (b : Book) (w : Want) (n : Nat) : Int → Option Int := fun i7 => its_f_47_2 N n (S_f_47_2 b w i7)
theorem fe_f_47_2 (N : Nat) : it_f_47_2 N = f_47_2 N := funext fun b => funext fun w => funext (lp_all (by kernel_rfl) fun n => by
 show _ = f_47_2r N b w (it_f_47_2 N b w n)
 kernel_rfl)
noncomputable def its_f_47_0 (N : Nat) (n : Nat) : St → Option Int := fun S' => iter [] (annAt fi_f_47 0) (code (E_f_47 N) (lpIn fi_f_47.body 0 0) 0) n S' (contOf (E_f_47 N) fi_f_47.body 0 0 K_f_47)
noncomputable def it_f_47_0 (N : Nat) (b : Book) (w : Want) (n : Nat) : Int → Option Int := fun i6 => its_f_47_0 N n (S_f_47_0 b w i6)
theorem fe_f_47_0 (N : Nat) : it_f_47_0 N = f_47_0 N := funext fun b => funext fun w => funext (lp_all (by kernel_rfl) fun n => by
 show _ = f_47_0r N (f_47_2 N) b w (it_f_47_0 N b w n)
 rw [show f_47_2 N = it_f_47_2 N from (fe_f_47_2 N).symm]
 kernel_rfl)
theorem run_f_47 (N : Nat) (b : Book) (w : Want) : runST (ofDs [tInt]) (tabOf tabL) (tabS (phiL_f_47 N)) inl0 N fi_f_47 sg_f_47 [⟨tBook, b⟩, ⟨tWant, w⟩] = F.f_47 N b w := by
 show _ = F.f_47b N (F.f_47_0 N) b w
 rw [← fe_f_47_0 N]
 kernel_rfl
def sm_f_47 (N : Nat) : Summ := summOf [.d tBook true, .d tWant true] false [.d tInt false] [tInt] (F.f_47 N)
theorem con_f_47 (N : Nat) : Contract Tryz.prog 38 (sm_f_47 N) := con_of (N := N) tabOK mixed (callOK_list (l := phiL_f_47 N) (allc rfl (con_f_37 N) (allc rfl (con_f_38 N) (allc rfl (con_f_74 N) (allc rfl (con_f_88 N) (allc rfl (con_f_84 N) (allc rfl (con_f_90 N) (allc rfl (con_f_72 N) (allc rfl (con_f_53 N) (allc rfl (con_f_65 N) (allc rfl (con_f_55 N) trivial))))))))))) (inl0_ok _) ok_f_47 (by decide) fun b w => run_f_47 N b w
def an_f_110 : Nat → Option Ann
 | 0 => some ⟨⟨[(2, kp), (3, kp), (4, kp), (5, kp)], [(2, [.own 1000200 106 tFoe, .own 1000201 34 tSpot, .own 1000202 9 Ty.str, Dir.dow 1000203 94 [9, 82, 9, 9] tPart, kp]), (3, [kp, kp, kp, kp, kp, kp]), (4, [kp, kp, kp, kp, kp])], []⟩, [(0, ⟨[(2, kp), (3, kp), (4, kp)], [(2, [.own 1000200 106 tFoe, .own 1000201 34 tSpot, .own 1000202 9 Ty.str, Dir.dow 1000203 94 [9, 82, 9, 9] tPart, kp]), (3, [kp, kp, kp, kp, kp, kp]), (4, [kp, kp, kp, kp, kp])], []⟩)], ⟨[], [], []⟩⟩
 | 2 => some ⟨⟨[(2, kp), (3, kp), (4, kp), (5, kp), (6, kp), (7, kp), (8, kp)], [(2, [.own 1000200 106 tFoe, .own 1000201 34 tSpot, .own 1000202 9 Ty.str, Dir.dow 1000203 94 [9, 82, 9, 9] tPart, kp]), (3, [kp, kp, kp, kp, kp, kp]), (4, [kp, kp, kp, kp, kp]), (6, [kp, kp, kp])], []⟩, [(2, ⟨[(2, kp), (3, kp), (4, kp), (5, kp)], [(2, [.own 1000200 106 tFoe, .own 1000201 34 tSpot, .own 1000202 9 Ty.str, Dir.dow 1000203 94 [9, 82, 9, 9] tPart, kp]), (3, [kp, kp, kp, kp, kp, kp]), (4, [kp, kp, kp, kp, kp])], []⟩)], ⟨[], [], []⟩⟩
 | _ => none
noncomputable def fi_f_110 : FI := ⟨Tryz.f68.results.toList, bodyOf Tryz.f68.body, Tryz.f68.ntmps, an_f_110⟩
theorem ok_f_110 : FnOK Tryz.prog 68 fi_f_110 := ⟨⟨Tryz.f68, Tryz.func68, by kernel_rfl, rfl, rfl, by kernel_rfl⟩, by kernel_rfl⟩
def phiL_f_110 (N : Nat) : List (Nat × Summ) := [(62, sm_f_89 N), (142, sm_f_64 N), (130, sm_f_85 N)]
def sg_f_110 : Summ := sigOf [.sp [.mv 106 tFoe none, .mv 34 tSpot (some [9]), .mv 9 (.str) none, .mv 94 tPart (some [9, 82, 9, 9]), .dd tInt], .d tWant true] true [.own tBook true [(106, none), (34, none), (9, none), (94, (some [9, 82, 9, 9]))]]
def S_f_110_2 (b0 : List Foe) (b2 : List Txt) (b3 : List Part) (b4 : Int) (w : Want) (t4c4 : Int) (i5 : Int) (r_4 : Int) (u6c0_1 : Txt) (u6c1_1 : Int) (u6c2_1 : Int) (n8_1 : Int) (b2c1a_2 : List Spot) : St := ⟨[(2, vb 2), (3, vb 3), (4, vb 4), (5, vv tInt i5), (6, vb 6), (7, vv tInt r_4), (8, vv tInt n8_1)], [(2, .box [.arr 1000200, .arr 1000201, .arr 1000202, .arr 1000203, .v tInt b4]), (3, .box [.v tInt w.1, .v tInt w.2.1, .v tTxts w.2.2.1, .v tUse.slice w.2.2.2.1, .v tTxts w.2.2.2.2.1, .v tTxts w.2.2.2.2.2]), (4, .box [.emp, .emp, .emp, .emp, .v tInt t4c4]), (6, .box [.v Ty.str u6c0_1, .v tInt u6c1_1, .v tInt u6c2_1]), (1000200, .arr 106 tFoe b0), (1000201, .arr 34 tSpot b2c1a_2), (1000202, .arr 9 Ty.str b2), (1000203, .arr 94 tPart b3 (Dp.yes [9, 82, 9, 9]))]⟩
def S_f_110_0 (b0 : List Foe) (b2 : List Txt) (b3 : List Part) (b4 : Int) (w : Want) (t4c4 : Int) (i5 : Int) (b2c1a : List Spot) : St := ⟨[(2, vb 2), (3, vb 3), (4, vb 4), (5, vv tInt i5)], [(2, .box [.arr 1000200, .arr 1000201, .arr 1000202, .arr 1000203, .v tInt b4]), (3, .box [.v tInt w.1, .v tInt w.2.1, .v tTxts w.2.2.1, .v tUse.slice w.2.2.2.1, .v tTxts w.2.2.2.2.1, .v tTxts w.2.2.2.2.2]), (4, .box [.emp, .emp, .emp, .emp, .v tInt t4c4]), (1000200, .arr 106 tFoe b0), (1000201, .arr 34 tSpot b2c1a), (1000202, .arr 9 Ty.str b2), (1000203, .arr 94 tPart b3 (Dp.yes [9, 82, 9, 9]))]⟩
noncomputable def E_f_110 (N : Nat) : Env := envOf (tabOf tabL) (tabS (phiL_f_110 N)) inl0 N fi_f_110 []
noncomputable def K_f_110 := (kFun (tabOf tabL) fi_f_110.res (kT (ofDs [tBook]) sg_f_110 [(600000, .mv 106 tFoe none), (600001, .mv 34 tSpot (some [9])), (600002, .mv 9 (.str) none), (600003, .mv 94 tPart (some [9, 82, 9, 9]))]))
noncomputable def its_f_110_2 (N : Nat) (nxS0 : St → Option Book) (n : Nat) : St → Option Book := fun S' => iter [] (annAt fi_f_110 2) (code (E_f_110 N) (lpIn (lpIn fi_f_110.body 0 0) 0 2) 2) n S' (contOf (E_f_110 N) (lpIn fi_f_110.body 0 0) 0 2 (kLoop [] (annAt fi_f_110 0) nxS0 (contOf (E_f_110 N) fi_f_110.body 0 0 K_f_110)))
noncomputable def it_f_110_2 (N : Nat) (nxS0 : St → Option Book) (b0 : List Foe) (b2 : List Txt) (b3 : List Part) (b4 : Int) (w : Want) (t4c4 : Int) (i5 : Int) (r_4 : Int) (u6c0_1 : Txt) (u6c1_1 : Int) (u6c2_1 : Int) (n : Nat) : Int → (List Spot) → Option Book := fun n8_1 b2c1a_2 => its_f_110_2 N nxS0 n (S_f_110_2 b0 b2 b3 b4 w t4c4 i5 r_4 u6c0_1 u6c1_1 u6c2_1 n8_1 b2c1a_2)
theorem fe_f_110_2 (N : Nat) (nxS0 : St → Option Book) (b0 : List Foe) (b2 : List Txt) (b3 : List Part) (b4 : Int) (w : Want) (t4c4 : Int) : it_f_110_2 N nxS0 b0 b2 b3 b4 w t4c4 = f_110_2 N (fun i5 b2c1a => nxS0 (S_f_110_0 b0 b2 b3 b4 w t4c4 i5 b2c1a)) b0 b2 b3 b4 w t4c4 := funext fun i5 => funext fun r_4 => funext fun u6c0_1 => funext fun u6c1_1 => funext fun u6c2_1 => funext (lp_all (by kernel_rfl) fun n => by
 show _ = f_110_2r N (fun i5 b2c1a => nxS0 (S_f_110_0 b0 b2 b3 b4 w t4c4 i5 b2c1a)) b0 b2 b3 b4 w t4c4 i5 r_4 u6c0_1 u6c1_1 u6c2_1 (it_f_110_2 N nxS0 b0 b2 b3 b4 w t4c4 i5 r_4 u6c0_1 u6c1_1 u6c2_1 n)
 kernel_rfl)
noncomputable def its_f_110_0 (N : Nat) (n : Nat) : St → Option Book := fun S' => iter [] (annAt fi_f_110 0) (code (E_f_110 N) (lpIn fi_f_110.body 0 0) 0) n S' (contOf (E_f_110 N) fi_f_110.body 0 0 K_f_110)
noncomputable def it_f_110_0 (N : Nat) (b0 : List Foe) (b2 : List Txt) (b3 : List Part) (b4 : Int) (w : Want) (t4c4 : Int) (n : Nat) : Int → (List Spot) → Option Book := fun i5 b2c1a => its_f_110_0 N n (S_f_110_0 b0 b2 b3 b4 w t4c4 i5 b2c1a)
theorem fe_f_110_0 (N : Nat) : it_f_110_0 N = f_110_0 N := funext fun b0 => funext fun b2 => funext fun b3 => funext fun b4 => funext fun w => funext fun t4c4 => funext (lp_all (by kernel_rfl) fun n => by
 show _ = f_110_0r N (f_110_2 N (it_f_110_0 N b0 b2 b3 b4 w t4c4 n) b0 b2 b3 b4 w t4c4) b0 b2 b3 b4 w t4c4 (it_f_110_0 N b0 b2 b3 b4 w t4c4 n)
 rw [show f_110_2 N (it_f_110_0 N b0 b2 b3 b4 w t4c4 n) b0 b2 b3 b4 w t4c4 = it_f_110_2 N (its_f_110_0 N n) b0 b2 b3 b4 w t4c4 from (fe_f_110_2 N (its_f_110_0 N n) b0 b2 b3 b4 w t4c4).symm]
 kernel_rfl)
theorem run_f_110 (N : Nat) (b0 : List Foe) (b1 : List Spot) (b2 : List Txt) (b3 : List Part) (b4 : Int) (w : Want) : runST (ofDs [tBook]) (tabOf tabL) (tabS (phiL_f_110 N)) inl0 N fi_f_110 sg_f_110 [⟨.slice tFoe, b0⟩, ⟨.slice tSpot, b1⟩, ⟨tTxts, b2⟩, ⟨.slice tPart, b3⟩, ⟨tInt, b4⟩, ⟨tWant, w⟩] = F.f_110 N b0 b1 b2 b3 b4 w := by
 show _ = F.f_110b N (F.f_110_0 N) b0 b1 b2 b3 b4 w
 rw [← fe_f_110_0 N]
 kernel_rfl
def sm_f_110 (N : Nat) : Summ := summOf [.sp [.mv 106 tFoe none, .mv 34 tSpot (some [9]), .mv 9 (.str) none, .mv 94 tPart (some [9, 82, 9, 9]), .dd tInt], .d tWant true] true [.own tBook true [(106, none), (34, none), (9, none), (94, (some [9, 82, 9, 9]))]] [tBook] (F.f_110 N)
theorem con_f_110 (N : Nat) : Contract Tryz.prog 68 (sm_f_110 N) := con_of (N := N) tabOK mixed (callOK_list (l := phiL_f_110 N) (allc rfl (con_f_89 N) (allc rfl (con_f_64 N) (allc rfl (con_f_85 N) trivial)))) (inl0_ok _) ok_f_110 (by decide) fun b0 b1 b2 b3 b4 w => run_f_110 N b0 b1 b2 b3 b4 w
def an_f_41 : Nat → Option Ann := fun _ => none
noncomputable def fi_f_41 : FI := ⟨Tryz.f20.results.toList, bodyOf Tryz.f20.body, Tryz.f20.ntmps, an_f_41⟩
theorem ok_f_41 : FnOK Tryz.prog 20 fi_f_41 := ⟨⟨Tryz.f20, Tryz.func20, by kernel_rfl, rfl, rfl, by kernel_rfl⟩, by kernel_rfl⟩
def phiL_f_41 (N : Nat) : List (Nat × Summ) := [(38, sm_f_47 N), (52, sm_f_86 N), (67, sm_f_118 N), (58, sm_f_88 N), (68, sm_f_110 N)]
def sg_f_41 : Summ := sigOf [.d tBook true, .d tWant true] false [.own tBook true [(106, none), (34, (some [9])), (9, none), (94, (some [9, 82, 9, 9]))], .d tInt false]
theorem run_f_41 (N : Nat) (b : Book) (w : Want) : runST (ofDs [tBook, tInt]) (tabOf tabL) (tabS (phiL_f_41 N)) inl0 N fi_f_41 sg_f_41 [⟨tBook, b⟩, ⟨tWant, w⟩] = F.f_41 N b w := by kernel_rfl
def sm_f_41 (N : Nat) : Summ := summOf [.d tBook true, .d tWant true] false [.own tBook true [(106, none), (34, (some [9])), (9, none), (94, (some [9, 82, 9, 9]))], .d tInt false] [tBook, tInt] (F.f_41 N)
theorem con_f_41 (N : Nat) : Contract Tryz.prog 20 (sm_f_41 N) := con_of (N := N) tabOK mixed (callOK_list (l := phiL_f_41 N) (allc rfl (con_f_47 N) (allc rfl (con_f_86 N) (allc rfl (con_f_118 N) (allc rfl (con_f_88 N) (allc rfl (con_f_110 N) trivial)))))) (inl0_ok _) ok_f_41 (by decide) fun b w => run_f_41 N b w
def an_f_96 : Nat → Option Ann := fun _ => none
noncomputable def fi_f_96 : FI := ⟨Tryz.f55.results.toList, bodyOf Tryz.f55.body, Tryz.f55.ntmps, an_f_96⟩
theorem ok_f_96 : FnOK Tryz.prog 55 fi_f_96 := ⟨⟨Tryz.f55, Tryz.func55, by kernel_rfl, rfl, rfl, by kernel_rfl⟩, by kernel_rfl⟩
def phiL_f_96 (N : Nat) : List (Nat × Summ) := [(13, sm_f_49 N), (15, sm_f_48 N), (20, sm_f_41 N)]
def sg_f_96 : Summ := sigOf [.d tBook true, .d tDo true] true [.d tBook true]
theorem run_f_96 (N : Nat) (b : Book) (d : Do) : runST (ofDs [tBook]) (tabOf tabL) (tabS (phiL_f_96 N)) inl0 N fi_f_96 sg_f_96 [⟨tBook, b⟩, ⟨tDo, d⟩] = F.f_96 N b d := by kernel_rfl
def sm_f_96 (N : Nat) : Summ := summOf [.d tBook true, .d tDo true] true [.d tBook true] [tBook] (F.f_96 N)
theorem con_f_96 (N : Nat) : Contract Tryz.prog 55 (sm_f_96 N) := con_of (N := N) tabOK mixed (callOK_list (l := phiL_f_96 N) (allc rfl (con_f_49 N) (allc rfl (con_f_48 N) (allc rfl (con_f_41 N) trivial)))) (inl0_ok _) ok_f_96 (by decide) fun b d => run_f_96 N b d
def an_f_30 : Nat → Option Ann
 | 0 => some ⟨⟨[(2, kp), (4, kp), (5, kp), (6, kp), (7, .own 700007 41 tDo), (8, kp)], [(2, [kp, kp, kp, kp, kp]), (10, [kp, kp]), (5, [kp, kp, kp, kp, kp]), (6, [Dir.frz tFoe, Dir.frz tSpot, Dir.frz Ty.str, Dir.frz tPart, kp])], []⟩, [(0, ⟨[(2, kp), (5, kp), (7, .own 700007 41 tDo)], [(2, [kp, kp, kp, kp, kp]), (5, [kp, kp, kp, kp, kp])], []⟩)], ⟨[], [], []⟩⟩
 | _ => none
noncomputable def fi_f_30 : FI := ⟨Tryz.f11.results.toList, bodyOf Tryz.f11.body, Tryz.f11.ntmps, an_f_30⟩
theorem ok_f_30 : FnOK Tryz.prog 11 fi_f_30 := ⟨⟨Tryz.f11, Tryz.func11, by kernel_rfl, rfl, rfl, by kernel_rfl⟩, by kernel_rfl⟩
def phiL_f_30 (N : Nat) : List (Nat × Summ) := [(51, sm_f_91 N), (52, sm_f_86 N), (53, sm_f_51 N), (54, sm_f_93 N), (55, sm_f_96 N)]
def sg_f_30 : Summ := sigOf [.d (.slice tByte) false] true [.d tBook true, .d (.slice tDo) false]
def S_f_30_0 (t2c4 : Int) (b5c0 : List Foe) (b5c1 : List Spot) (b5c2 : List Txt) (b5c3 : List Part) (b5c4 : Int) (n8 : Int) (t10c0 : List Int) (t10c1 : Int) (x6c0 : List Foe) (x6c1 : List Spot) (x6c2 : List Txt) (x6c3 : List Part) (x6c4 : Int) (out7a : List Do) : St := ⟨[(2, vb 2), (4, vb 10), (5, vb 5), (6, vb 6), (7, va 700007), (8, vv tInt n8)], [(2, .box [.emp, .emp, .emp, .emp, .v tInt t2c4]), (10, .box [.v tByte.slice t10c0, .v tInt t10c1]), (5, .box [.v tFoe.slice b5c0, .v tSpot.slice b5c1, .v tTxts b5c2, .v tPart.slice b5c3, .v tInt b5c4]), (6, .box [.v tFoe.slice x6c0, .v tSpot.slice x6c1, .v tTxts x6c2, .v tPart.slice x6c3, .v tInt x6c4]), (700007, .arr 41 tDo out7a)]⟩
noncomputable def E_f_30 (N : Nat) : Env := envOf (tabOf tabL) (tabS (phiL_f_30 N)) (inlB libL [(50, fi_spec_l1Open)] (tabOf tabL) (tabS (phiL_f_30 N)) N) N fi_f_30 []
noncomputable def K_f_30 := (kFun (tabOf tabL) fi_f_30.res (kT (ofDs [tBook, .slice tDo]) sg_f_30 []))
noncomputable def its_f_30_0 (N : Nat) (n : Nat) : St → Option (Book × List Do) := fun S' => iter [] (annAt fi_f_30 0) (code (E_f_30 N) (lpIn fi_f_30.body 0 0) 0) n S' (contOf (E_f_30 N) fi_f_30.body 0 0 K_f_30)
noncomputable def it_f_30_0 (N : Nat) (t2c4 : Int) (b5c0 : List Foe) (b5c1 : List Spot) (b5c2 : List Txt) (b5c3 : List Part) (b5c4 : Int) (n : Nat) : Int → (List Int) → Int → (List Foe) → (List Spot) → (List Txt) → (List Part) → Int → (List Do) → Option (Book × List Do) := fun n8 t10c0 t10c1 x6c0 x6c1 x6c2 x6c3 x6c4 out7a => its_f_30_0 N n (S_f_30_0 t2c4 b5c0 b5c1 b5c2 b5c3 b5c4 n8 t10c0 t10c1 x6c0 x6c1 x6c2 x6c3 x6c4 out7a)
theorem fe_f_30_0 (N : Nat) : it_f_30_0 N = f_30_0 N := funext fun t2c4 => funext fun b5c0 => funext fun b5c1 => funext fun b5c2 => funext fun b5c3 => funext fun b5c4 => funext (lp_all (by kernel_rfl) fun n => by
 show _ = f_30_0r N t2c4 b5c0 b5c1 b5c2 b5c3 b5c4 (it_f_30_0 N t2c4 b5c0 b5c1 b5c2 b5c3 b5c4 n)
 kernel_rfl)
theorem run_f_30 (N : Nat) (code : List (Int)) : runST (ofDs [tBook, .slice tDo]) (tabOf tabL) (tabS (phiL_f_30 N)) (inlB libL [(50, fi_spec_l1Open)] (tabOf tabL) (tabS (phiL_f_30 N)) N) N fi_f_30 sg_f_30 [⟨.slice tByte, code⟩] = F.f_30 N code := by
 show _ = F.f_30b N (F.f_30_0 N) code
 rw [← fe_f_30_0 N]
 kernel_rfl
def sm_f_30 (N : Nat) : Summ := summOf [.d (.slice tByte) false] true [.d tBook true, .d (.slice tDo) false] [tBook, .slice tDo] (F.f_30 N)
theorem con_f_30 (N : Nat) : Contract Tryz.prog 11 (sm_f_30 N) := con_of (N := N) tabOK mixed (callOK_list (l := phiL_f_30 N) (allc rfl (con_f_91 N) (allc rfl (con_f_86 N) (allc rfl (con_f_51 N) (allc rfl (con_f_93 N) (allc rfl (con_f_96 N) trivial)))))) (inlB_ok (L := libL) (Fs := [(50, fi_spec_l1Open)]) libs_ok (And.intro ok_spec_l1Open trivial) tabOK (callOK_list (l := phiL_f_30 N) (allc rfl (con_f_91 N) (allc rfl (con_f_86 N) (allc rfl (con_f_51 N) (allc rfl (con_f_93 N) (allc rfl (con_f_96 N) trivial)))))) mixed) ok_f_30 (by decide) fun code => run_f_30 N code
def an_f_120 : Nat → Option Ann := fun _ => none
noncomputable def fi_f_120 : FI := ⟨Tryz.f71.results.toList, bodyOf Tryz.f71.body, Tryz.f71.ntmps, an_f_120⟩
theorem ok_f_120 : FnOK Tryz.prog 71 fi_f_120 := ⟨⟨Tryz.f71, Tryz.func71, by kernel_rfl, rfl, rfl, by kernel_rfl⟩, by kernel_rfl⟩
def phiL_f_120 (N : Nat) : List (Nat × Summ) := []
def sg_f_120 : Summ := sigOf [.d tInt false, .d tInt false, .d tInt false] false [.d (.bool) false]
theorem run_f_120 (N : Nat) (n : Int) (low : Int) (high : Int) : runST (ofDs [.bool]) (tabOf tabL) (tabS (phiL_f_120 N)) inl0 N fi_f_120 sg_f_120 [⟨tInt, n⟩, ⟨tInt, low⟩, ⟨tInt, high⟩] = F.f_120 N n low high := by kernel_rfl
def sm_f_120 (N : Nat) : Summ := summOf [.d tInt false, .d tInt false, .d tInt false] false [.d (.bool) false] [.bool] (F.f_120 N)
theorem con_f_120 (N : Nat) : Contract Tryz.prog 71 (sm_f_120 N) := con_of (N := N) tabOK mixed (callOK_list (l := phiL_f_120 N) trivial) (inl0_ok _) ok_f_120 (by decide) fun n low high => run_f_120 N n low high
def an_f_114 : Nat → Option Ann
 | 0 => some ⟨⟨[(0, kp), (3, kp)], [], []⟩, [(0, ⟨[], [], []⟩)], ⟨[(2, kp)], [], []⟩⟩
 | _ => none
noncomputable def fi_f_114 : FI := ⟨Tryz.f72.results.toList, bodyOf Tryz.f72.body, Tryz.f72.ntmps, an_f_114⟩
theorem ok_f_114 : FnOK Tryz.prog 72 fi_f_114 := ⟨⟨Tryz.f72, Tryz.func72, by kernel_rfl, rfl, rfl, by kernel_rfl⟩, by kernel_rfl⟩
def phiL_f_114 (N : Nat) : List (Nat × Summ) := [(71, sm_f_120 N)]
def sg_f_114 : Summ := sigOf [.d (.str) false] false [.d (.bool) false]
def S_f_114_0 (s : Txt) (i3 : Int) : St := ⟨[(0, vv Ty.str s), (3, vv tInt i3)], []⟩
noncomputable def E_f_114 (N : Nat) : Env := envOf (tabOf tabL) (tabS (phiL_f_114 N)) inl0 N fi_f_114 []
noncomputable def K_f_114 := (kFun (tabOf tabL) fi_f_114.res (kT (ofDs [.bool]) sg_f_114 []))
noncomputable def its_f_114_0 (N : Nat) (n : Nat) : St → Option Bool := fun S' => iter [] (annAt fi_f_114 0) (code (E_f_114 N) (lpIn fi_f_114.body 0 0) 0) n S' (contOf (E_f_114 N) fi_f_114.body 0 0 K_f_114)
noncomputable def it_f_114_0 (N : Nat) (s : Txt) (n : Nat) : Int → Option Bool := fun i3 => its_f_114_0 N n (S_f_114_0 s i3)
theorem fe_f_114_0 (N : Nat) : it_f_114_0 N = f_114_0 N := funext fun s => funext (lp_all (by kernel_rfl) fun n => by
 show _ = f_114_0r N s (it_f_114_0 N s n)
 kernel_rfl)
theorem run_f_114 (N : Nat) (s : Txt) : runST (ofDs [.bool]) (tabOf tabL) (tabS (phiL_f_114 N)) inl0 N fi_f_114 sg_f_114 [⟨.str, s⟩] = F.f_114 N s := by
 show _ = F.f_114b N (F.f_114_0 N) s
 rw [← fe_f_114_0 N]
 kernel_rfl
def sm_f_114 (N : Nat) : Summ := summOf [.d (.str) false] false [.d (.bool) false] [.bool] (F.f_114 N)
theorem con_f_114 (N : Nat) : Contract Tryz.prog 72 (sm_f_114 N) := con_of (N := N) tabOK mixed (callOK_list (l := phiL_f_114 N) (allc rfl (con_f_120 N) trivial)) (inl0_ok _) ok_f_114 (by decide) fun s => run_f_114 N s
def an_f_98 : Nat → Option Ann
 | 0 => some ⟨⟨[(0, kp), (11, kp), (12, kp), (13, kp)], [], []⟩, [(0, ⟨[], [], []⟩)], ⟨[(4, kp)], [], []⟩⟩
 | _ => none
noncomputable def fi_f_98 : FI := ⟨Tryz.f70.results.toList, bodyOf Tryz.f70.body, Tryz.f70.ntmps, an_f_98⟩
theorem ok_f_98 : FnOK Tryz.prog 70 fi_f_98 := ⟨⟨Tryz.f70, Tryz.func70, by kernel_rfl, rfl, rfl, by kernel_rfl⟩, by kernel_rfl⟩
def phiL_f_98 (N : Nat) : List (Nat × Summ) := [(72, sm_f_114 N)]
def sg_f_98 : Summ := sigOf [.d tTxts false, .d tInt false] false [.d (.bool) false]
def S_f_98_0 (l : List Txt) (t12 : Int) (t13 : Int) : St := ⟨[(0, vv tTxts l), (11, vv tTxts l), (12, vv tInt t12), (13, vv tInt t13)], []⟩
noncomputable def E_f_98 (N : Nat) : Env := envOf (tabOf tabL) (tabS (phiL_f_98 N)) inl0 N fi_f_98 []
noncomputable def K_f_98 := (kFun (tabOf tabL) fi_f_98.res (kT (ofDs [.bool]) sg_f_98 []))
noncomputable def its_f_98_0 (N : Nat) (n : Nat) : St → Option Bool := fun S' => iter [] (annAt fi_f_98 0) (code (E_f_98 N) (lpIn fi_f_98.body 0 0) 0) n S' (contOf (E_f_98 N) fi_f_98.body 0 0 K_f_98)
noncomputable def it_f_98_0 (N : Nat) (l : List Txt) (t12 : Int) (n : Nat) : Int → Option Bool := fun t13 => its_f_98_0 N n (S_f_98_0 l t12 t13)
theorem fe_f_98_0 (N : Nat) : it_f_98_0 N = f_98_0 N := funext fun l => funext fun t12 => funext (lp_all (by kernel_rfl) fun n => by
 show _ = f_98_0r N l t12 (it_f_98_0 N l t12 n)
 kernel_rfl)
theorem run_f_98 (N : Nat) (l : List Txt) (most : Int) : runST (ofDs [.bool]) (tabOf tabL) (tabS (phiL_f_98 N)) inl0 N fi_f_98 sg_f_98 [⟨tTxts, l⟩, ⟨tInt, most⟩] = F.f_98 N l most := by
 show _ = F.f_98b N (F.f_98_0 N) l most
 rw [← fe_f_98_0 N]
 kernel_rfl
def sm_f_98 (N : Nat) : Summ := summOf [.d tTxts false, .d tInt false] false [.d (.bool) false] [.bool] (F.f_98 N)
theorem con_f_98 (N : Nat) : Contract Tryz.prog 70 (sm_f_98 N) := con_of (N := N) tabOK mixed (callOK_list (l := phiL_f_98 N) (allc rfl (con_f_114 N) trivial)) (inl0_ok _) ok_f_98 (by decide) fun l most => run_f_98 N l most
def an_f_24 : Nat → Option Ann := fun _ => none
noncomputable def fi_f_24 : FI := ⟨Tryz.f73.results.toList, bodyOf Tryz.f73.body, Tryz.f73.ntmps, an_f_24⟩
theorem ok_f_24 : FnOK Tryz.prog 73 fi_f_24 := ⟨⟨Tryz.f73, Tryz.func73, by kernel_rfl, rfl, rfl, by kernel_rfl⟩, by kernel_rfl⟩
def phiL_f_24 (N : Nat) : List (Nat × Summ) := []
def sg_f_24 : Summ := sigOf [.d tFoe true, .d tFoe true] false [.d (.bool) false]
theorem run_f_24 (N : Nat) (f : Foe) (g : Foe) : runST (ofDs [.bool]) (tabOf tabL) (tabS (phiL_f_24 N)) inl0 N fi_f_24 sg_f_24 [⟨tFoe, f⟩, ⟨tFoe, g⟩] = F.f_24 N f g := by kernel_rfl
def sm_f_24 (N : Nat) : Summ := summOf [.d tFoe true, .d tFoe true] false [.d (.bool) false] [.bool] (F.f_24 N)
theorem con_f_24 (N : Nat) : Contract Tryz.prog 73 (sm_f_24 N) := con_of (N := N) tabOK mixed (callOK_list (l := phiL_f_24 N) trivial) (inl0_ok _) ok_f_24 (by decide) fun f g => run_f_24 N f g
def an_f_27 : Nat → Option Ann
 | 0 => some ⟨⟨[(0, kp), (1, kp), (7, kp), (8, kp)], [], []⟩, [(0, ⟨[], [], []⟩)], ⟨[(4, kp)], [], []⟩⟩
 | _ => none
noncomputable def fi_f_27 : FI := ⟨Tryz.f159.results.toList, bodyOf Tryz.f159.body, Tryz.f159.ntmps, an_f_27⟩
theorem ok_f_27 : FnOK Tryz.prog 159 fi_f_27 := ⟨⟨Tryz.f159, Tryz.func159, by kernel_rfl, rfl, rfl, by kernel_rfl⟩, by kernel_rfl⟩
def phiL_f_27 (N : Nat) : List (Nat × Summ) := []
def sg_f_27 : Summ := sigOf [.d tTxts false, .d (.str) false] false [.d tInt false]
def S_f_27_0 (s : List Txt) (v : Txt) (t7 : Int) (t8 : Int) : St := ⟨[(0, vv tTxts s), (1, vv Ty.str v), (7, vv tInt t7), (8, vv tInt t8)], []⟩
noncomputable def E_f_27 (N : Nat) : Env := envOf (tabOf tabL) (tabS (phiL_f_27 N)) inl0 N fi_f_27 []
noncomputable def K_f_27 := (kFun (tabOf tabL) fi_f_27.res (kT (ofDs [tInt]) sg_f_27 []))
noncomputable def its_f_27_0 (N : Nat) (n : Nat) : St → Option Int := fun S' => iter [] (annAt fi_f_27 0) (code (E_f_27 N) (lpIn fi_f_27.body 0 0) 0) n S' (contOf (E_f_27 N) fi_f_27.body 0 0 K_f_27)
noncomputable def it_f_27_0 (N : Nat) (s : List Txt) (v : Txt) (t7 : Int) (n : Nat) : Int → Option Int := fun t8 => its_f_27_0 N n (S_f_27_0 s v t7 t8)
theorem fe_f_27_0 (N : Nat) : it_f_27_0 N = f_27_0 N := funext fun s => funext fun v => funext fun t7 => funext (lp_all (by kernel_rfl) fun n => by
 show _ = f_27_0r N s v t7 (it_f_27_0 N s v t7 n)
 kernel_rfl)
theorem run_f_27 (N : Nat) (s : List Txt) (v : Txt) : runST (ofDs [tInt]) (tabOf tabL) (tabS (phiL_f_27 N)) inl0 N fi_f_27 sg_f_27 [⟨tTxts, s⟩, ⟨.str, v⟩] = F.f_27 N s v := by
 show _ = F.f_27b N (F.f_27_0 N) s v
 rw [← fe_f_27_0 N]
 kernel_rfl
def sm_f_27 (N : Nat) : Summ := summOf [.d tTxts false, .d (.str) false] false [.d tInt false] [tInt] (F.f_27 N)
theorem con_f_27 (N : Nat) : Contract Tryz.prog 159 (sm_f_27 N) := con_of (N := N) tabOK mixed (callOK_list (l := phiL_f_27 N) trivial) (inl0_ok _) ok_f_27 (by decide) fun s v => run_f_27 N s v
def an_f_15 : Nat → Option Ann := fun _ => none
noncomputable def fi_f_15 : FI := ⟨Tryz.f101.results.toList, bodyOf Tryz.f101.body, Tryz.f101.ntmps, an_f_15⟩
theorem ok_f_15 : FnOK Tryz.prog 101 fi_f_15 := ⟨⟨Tryz.f101, Tryz.func101, by kernel_rfl, rfl, rfl, by kernel_rfl⟩, by kernel_rfl⟩
def phiL_f_15 (N : Nat) : List (Nat × Summ) := [(159, sm_f_27 N)]
def sg_f_15 : Summ := sigOf [.d tTxts false, .d (.str) false] false [.d (.bool) false]
theorem run_f_15 (N : Nat) (s : List Txt) (v : Txt) : runST (ofDs [.bool]) (tabOf tabL) (tabS (phiL_f_15 N)) inl0 N fi_f_15 sg_f_15 [⟨tTxts, s⟩, ⟨.str, v⟩] = F.f_15 N s v := by kernel_rfl
def sm_f_15 (N : Nat) : Summ := summOf [.d tTxts false, .d (.str) false] false [.d (.bool) false] [.bool] (F.f_15 N)
theorem con_f_15 (N : Nat) : Contract Tryz.prog 101 (sm_f_15 N) := con_of (N := N) tabOK mixed (callOK_list (l := phiL_f_15 N) (allc rfl (con_f_27 N) trivial)) (inl0_ok _) ok_f_15 (by decide) fun s v => run_f_15 N s v
def an_f_22 : Nat → Option Ann
 | 0 => some ⟨⟨[(1, kp), (2, kp), (10, kp), (11, kp), (12, kp)], [], []⟩, [(0, ⟨[], [], []⟩)], ⟨[(6, kp)], [], []⟩⟩
 | _ => none
noncomputable def fi_f_22 : FI := ⟨Tryz.f74.results.toList, bodyOf Tryz.f74.body, Tryz.f74.ntmps, an_f_22⟩
theorem ok_f_22 : FnOK Tryz.prog 74 fi_f_22 := ⟨⟨Tryz.f74, Tryz.func74, by kernel_rfl, rfl, rfl, by kernel_rfl⟩, by kernel_rfl⟩
def phiL_f_22 (N : Nat) : List (Nat × Summ) := [(101, sm_f_15 N)]
def sg_f_22 : Summ := sigOf [.d tBook true, .d tTxts false, .d tTxts false] false [.d (.bool) false]
def S_f_22_0 (b : Book) (x : List Txt) (y : List Txt) (t11 : Int) (t12 : Int) : St := ⟨[(1, vv tTxts x), (2, vv tTxts y), (10, vv tFoe.slice b.1), (11, vv tInt t11), (12, vv tInt t12)], []⟩
noncomputable def E_f_22 (N : Nat) : Env := envOf (tabOf tabL) (tabS (phiL_f_22 N)) inl0 N fi_f_22 []
noncomputable def K_f_22 := (kFun (tabOf tabL) fi_f_22.res (kT (ofDs [.bool]) sg_f_22 []))
noncomputable def its_f_22_0 (N : Nat) (n : Nat) : St → Option Bool := fun S' => iter [] (annAt fi_f_22 0) (code (E_f_22 N) (lpIn fi_f_22.body 0 0) 0) n S' (contOf (E_f_22 N) fi_f_22.body 0 0 K_f_22)
noncomputable def it_f_22_0 (N : Nat) (b : Book) (x : List Txt) (y : List Txt) (t11 : Int) (n : Nat) : Int → Option Bool := fun t12 => its_f_22_0 N n (S_f_22_0 b x y t11 t12)
theorem fe_f_22_0 (N : Nat) : it_f_22_0 N = f_22_0 N := funext fun b => funext fun x => funext fun y => funext fun t11 => funext (lp_all (by kernel_rfl) fun n => by
 show _ = f_22_0r N b x y t11 (it_f_22_0 N b x y t11 n)
 kernel_rfl)
theorem run_f_22 (N : Nat) (b : Book) (x : List Txt) (y : List Txt) : runST (ofDs [.bool]) (tabOf tabL) (tabS (phiL_f_22 N)) inl0 N fi_f_22 sg_f_22 [⟨tBook, b⟩, ⟨tTxts, x⟩, ⟨tTxts, y⟩] = F.f_22 N b x y := by
 show _ = F.f_22b N (F.f_22_0 N) b x y
 rw [← fe_f_22_0 N]
 kernel_rfl
def sm_f_22 (N : Nat) : Summ := summOf [.d tBook true, .d tTxts false, .d tTxts false] false [.d (.bool) false] [.bool] (F.f_22 N)
theorem con_f_22 (N : Nat) : Contract Tryz.prog 74 (sm_f_22 N) := con_of (N := N) tabOK mixed (callOK_list (l := phiL_f_22 N) (allc rfl (con_f_15 N) trivial)) (inl0_ok _) ok_f_22 (by decide) fun b x y => run_f_22 N b x y
def an_f_45 : Nat → Option Ann := fun _ => none
noncomputable def fi_f_45 : FI := ⟨Tryz.f175.results.toList, bodyOf Tryz.f175.body, Tryz.f175.ntmps, an_f_45⟩
theorem ok_f_45 : FnOK Tryz.prog 175 fi_f_45 := ⟨⟨Tryz.f175, Tryz.func175, by kernel_rfl, rfl, rfl, by kernel_rfl⟩, by kernel_rfl⟩
def phiL_f_45 (N : Nat) : List (Nat × Summ) := [(101, sm_f_15 N)]
def sg_f_45 : Summ := sigOf [.d (.str) false, .bx tTxts] true [.d (.bool) false]
theorem run_f_45 (N : Nat) (s : Txt) (p1 : List Txt) : runST (ofDs [.bool, tTxts]) (tabOf tabL) (tabS (phiL_f_45 N)) inl0 N fi_f_45 sg_f_45 [⟨.str, s⟩, ⟨tTxts, p1⟩] = F.f_45 N s p1 := by kernel_rfl
def sm_f_45 (N : Nat) : Summ := summOf [.d (.str) false, .bx tTxts] true [.d (.bool) false] [.bool, tTxts] (F.f_45 N)
theorem con_f_45 (N : Nat) : Contract Tryz.prog 175 (sm_f_45 N) := con_of (N := N) tabOK mixed (callOK_list (l := phiL_f_45 N) (allc rfl (con_f_15 N) trivial)) (inl0_ok _) ok_f_45 (by decide) fun s p1 => run_f_45 N s p1
def an_f_12 : Nat → Option Ann
 | 0 => some ⟨⟨[(0, kp), (1, kp), (7, kp), (8, kp)], [(500001, [kp])], []⟩, [(0, ⟨[], [(500001, [kp])], []⟩)], ⟨[(4, kp)], [(500001, [kp])], []⟩⟩
 | _ => none
noncomputable def fi_f_12 : FI := ⟨Tryz.f179.results.toList, bodyOf Tryz.f179.body, Tryz.f179.ntmps, an_f_12⟩
theorem ok_f_12 : FnOK Tryz.prog 179 fi_f_12 := ⟨⟨Tryz.f179, Tryz.func179, by kernel_rfl, rfl, rfl, by kernel_rfl⟩, by kernel_rfl⟩
def phiL_f_12 (N : Nat) : List (Nat × Summ) := [(175, sm_f_45 N)]
def sg_f_12 : Summ := sigOf [.d tTxts false, .cl 175 [tTxts]] true [.d tInt false]
def S_f_12_0 (s : List Txt) (t7 : Int) (t8 : Int) (fpc0 : List Txt) : St := ⟨[(0, vv tTxts s), (1, AV.w (V1.one (C.fn 175 [500001]))), (7, vv tInt t7), (8, vv tInt t8)], [(500001, .box [.v tTxts fpc0])]⟩
noncomputable def E_f_12 (N : Nat) : Env := envOf (tabOf tabL) (tabS (phiL_f_12 N)) inl0 N fi_f_12 [500001]
noncomputable def K_f_12 := (kFun (tabOf tabL) fi_f_12.res (kT (ofDs [tInt, tTxts]) sg_f_12 [(500001, .bx tTxts)]))
noncomputable def its_f_12_0 (N : Nat) (n : Nat) : St → Option (Int × List Txt) := fun S' => iter [500001] (annAt fi_f_12 0) (code (E_f_12 N) (lpIn fi_f_12.body 0 0) 0) n S' (contOf (E_f_12 N) fi_f_12.body 0 0 K_f_12)
noncomputable def it_f_12_0 (N : Nat) (s : List Txt) (t7 : Int) (n : Nat) : Int → (List Txt) → Option (Int × List Txt) := fun t8 fpc0 => its_f_12_0 N n (S_f_12_0 s t7 t8 fpc0)
theorem fe_f_12_0 (N : Nat) : it_f_12_0 N = f_12_0 N := funext fun s => funext fun t7 => funext (lp_all (by kernel_rfl) fun n => by
 show _ = f_12_0r N s t7 (it_f_12_0 N s t7 n)
 kernel_rfl)
theorem run_f_12 (N : Nat) (s : List Txt) (p1 : List Txt) : runST (ofDs [tInt, tTxts]) (tabOf tabL) (tabS (phiL_f_12 N)) inl0 N fi_f_12 sg_f_12 [⟨tTxts, s⟩, ⟨tTxts, p1⟩] = F.f_12 N s p1 := by
 show _ = F.f_12b N (F.f_12_0 N) s p1
 rw [← fe_f_12_0 N]
 kernel_rfl
def sm_f_12 (N : Nat) : Summ := summOf [.d tTxts false, .cl 175 [tTxts]] true [.d tInt false] [tInt, tTxts] (F.f_12 N)
theorem con_f_12 (N : Nat) : Contract Tryz.prog 179 (sm_f_12 N) := con_of (N := N) tabOK mixed (callOK_list (l := phiL_f_12 N) (allc rfl (con_f_45 N) trivial)) (inl0_ok _) ok_f_12 (by decide) fun s p1 => run_f_12 N s p1
def an_f_9 : Nat → Option Ann := fun _ => none
noncomputable def fi_f_9 : FI := ⟨Tryz.f168.results.toList, bodyOf Tryz.f168.body, Tryz.f168.ntmps, an_f_9⟩
theorem ok_f_9 : FnOK Tryz.prog 168 fi_f_9 := ⟨⟨Tryz.f168, Tryz.func168, by kernel_rfl, rfl, rfl, by kernel_rfl⟩, by kernel_rfl⟩
def phiL_f_9 (N : Nat) : List (Nat × Summ) := [(17600179, sm_f_12 N)]
def sg_f_9 : Summ := sigOf [.d tTxts false, .cl 175 [tTxts]] true [.d (.bool) false]
theorem run_f_9 (N : Nat) (s : List Txt) (p1 : List Txt) : runST (ofDs [.bool, tTxts]) (tabOf tabL) (tabS (phiL_f_9 N)) inl0 N fi_f_9 sg_f_9 [⟨tTxts, s⟩, ⟨tTxts, p1⟩] = F.f_9 N s p1 := by kernel_rfl
def sm_f_9 (N : Nat) : Summ := summOf [.d tTxts false, .cl 175 [tTxts]] true [.d (.bool) false] [.bool, tTxts] (F.f_9 N)
theorem con_f_9 (N : Nat) : Contract Tryz.prog 168 (sm_f_9 N) := con_of (N := N) tabOK mixed (callOK_list (l := phiL_f_9 N) (allc rfl (con_f_12 N) trivial)) (inl0_ok _) ok_f_9 (by decide) fun s p1 => run_f_9 N s p1
def an_f_80 : Nat → Option Ann := fun _ => none
noncomputable def fi_f_80 : FI := ⟨Tryz.f125.results.toList, bodyOf Tryz.f125.body, Tryz.f125.ntmps, an_f_80⟩
theorem ok_f_80 : FnOK Tryz.prog 125 fi_f_80 := ⟨⟨Tryz.f125, Tryz.func125, by kernel_rfl, rfl, rfl, by kernel_rfl⟩, by kernel_rfl⟩
def phiL_f_80 (N : Nat) : List (Nat × Summ) := [(17600168, sm_f_9 N)]
def sg_f_80 : Summ := sigOf [.d tTxts false, .d tTxts false] false [.d (.bool) false]
theorem run_f_80 (N : Nat) (a : List Txt) (b : List Txt) : runST (ofDs [.bool]) (tabOf tabL) (tabS (phiL_f_80 N)) inl0 N fi_f_80 sg_f_80 [⟨tTxts, a⟩, ⟨tTxts, b⟩] = F.f_80 N a b := by kernel_rfl
def sm_f_80 (N : Nat) : Summ := summOf [.d tTxts false, .d tTxts false] false [.d (.bool) false] [.bool] (F.f_80 N)
theorem con_f_80 (N : Nat) : Contract Tryz.prog 125 (sm_f_80 N) := con_of (N := N) tabOK mixed (callOK_list (l := phiL_f_80 N) (allc rfl (con_f_9 N) trivial)) (inl0_ok _) ok_f_80 (by decide) fun a b => run_f_80 N a b
def an_f_35 : Nat → Option Ann
 | 0 => some ⟨⟨[(1, kp), (3, kp), (40, kp), (41, kp), (42, kp)], [(1, [kp, kp, kp, kp, kp, kp])], []⟩, [(0, ⟨[(1, kp), (3, kp)], [(1, [kp, kp, kp, kp, kp, kp])], []⟩)], ⟨[(2, kp)], [], []⟩⟩
 | _ => none
noncomputable def fi_f_35 : FI := ⟨Tryz.f46.results.toList, bodyOf Tryz.f46.body, Tryz.f46.ntmps, an_f_35⟩
theorem ok_f_35 : FnOK Tryz.prog 46 fi_f_35 := ⟨⟨Tryz.f46, Tryz.func46, by kernel_rfl, rfl, rfl, by kernel_rfl⟩, by kernel_rfl⟩
def phiL_f_35 (N : Nat) : List (Nat × Summ) := [(71, sm_f_120 N), (70, sm_f_98 N), (72, sm_f_114 N), (125, sm_f_80 N)]
def sg_f_35 : Summ := sigOf [.d tWant true] false [.d (.bool) false]
def S_f_35_0 (w : Want) (move3 : Bool) (t41 : Int) (t42 : Int) : St := ⟨[(1, vb 1), (3, vv Ty.bool move3), (40, vv tUse.slice w.2.2.2.1), (41, vv tInt t41), (42, vv tInt t42)], [(1, .box [.v tInt w.1, .v tInt w.2.1, .v tTxts w.2.2.1, .v tUse.slice w.2.2.2.1, .v tTxts w.2.2.2.2.1, .v tTxts w.2.2.2.2.2])]⟩
noncomputable def E_f_35 (N : Nat) : Env := envOf (tabOf tabL) (tabS (phiL_f_35 N)) inl0 N fi_f_35 []
noncomputable def K_f_35 := (kFun (tabOf tabL) fi_f_35.res (kT (ofDs [.bool]) sg_f_35 []))
noncomputable def its_f_35_0 (N : Nat) (n : Nat) : St → Option Bool := fun S' => iter [] (annAt fi_f_35 0) (code (E_f_35 N) (lpIn fi_f_35.body 0 0) 0) n S' (contOf (E_f_35 N) fi_f_35.body 0 0 K_f_35)
noncomputable def it_f_35_0 (N : Nat) (w : Want) (move3 : Bool) (t41 : Int) (n : Nat) : Int → Option Bool := fun t42 => its_f_35_0 N n (S_f_35_0 w move3 t41 t42)
theorem fe_f_35_0 (N : Nat) : it_f_35_0 N = f_35_0 N := funext fun w => funext fun move3 => funext fun t41 => funext (lp_all (by kernel_rfl) fun n => by
 show _ = f_35_0r N w move3 t41 (it_f_35_0 N w move3 t41 n)
 kernel_rfl)
theorem run_f_35 (N : Nat) (w : Want) : runST (ofDs [.bool]) (tabOf tabL) (tabS (phiL_f_35 N)) inl0 N fi_f_35 sg_f_35 [⟨tWant, w⟩] = F.f_35 N w := by
 show _ = F.f_35b N (F.f_35_0 N) w
 rw [← fe_f_35_0 N]
 kernel_rfl
def sm_f_35 (N : Nat) : Summ := summOf [.d tWant true] false [.d (.bool) false] [.bool] (F.f_35 N)
theorem con_f_35 (N : Nat) : Contract Tryz.prog 46 (sm_f_35 N) := con_of (N := N) tabOK mixed (callOK_list (l := phiL_f_35 N) (allc rfl (con_f_120 N) (allc rfl (con_f_98 N) (allc rfl (con_f_114 N) (allc rfl (con_f_80 N) trivial))))) (inl0_ok _) ok_f_35 (by decide) fun w => run_f_35 N w
def an_f_20 : Nat → Option Ann := fun _ => none
noncomputable def fi_f_20 : FI := ⟨Tryz.f138.results.toList, bodyOf Tryz.f138.body, Tryz.f138.ntmps, an_f_20⟩
theorem ok_f_20 : FnOK Tryz.prog 138 fi_f_20 := ⟨⟨Tryz.f138, Tryz.func138, by kernel_rfl, rfl, rfl, by kernel_rfl⟩, by kernel_rfl⟩
def phiL_f_20 (N : Nat) : List (Nat × Summ) := []
def sg_f_20 : Summ := sigOf [.d tSpot true, .bx (.str)] true [.d (.bool) false]
theorem run_f_20 (N : Nat) (s : Spot) (p1 : Txt) : runST (ofDs [.bool, .str]) (tabOf tabL) (tabS (phiL_f_20 N)) inl0 N fi_f_20 sg_f_20 [⟨tSpot, s⟩, ⟨.str, p1⟩] = F.f_20 N s p1 := by kernel_rfl
def sm_f_20 (N : Nat) : Summ := summOf [.d tSpot true, .bx (.str)] true [.d (.bool) false] [.bool, .str] (F.f_20 N)
theorem con_f_20 (N : Nat) : Contract Tryz.prog 138 (sm_f_20 N) := con_of (N := N) tabOK mixed (callOK_list (l := phiL_f_20 N) trivial) (inl0_ok _) ok_f_20 (by decide) fun s p1 => run_f_20 N s p1
def an_f_3 : Nat → Option Ann
 | 0 => some ⟨⟨[(0, kp), (1, kp), (7, kp), (8, kp)], [(500001, [kp])], []⟩, [(0, ⟨[], [(500001, [kp])], []⟩)], ⟨[(4, kp)], [(500001, [kp])], []⟩⟩
 | _ => none
noncomputable def fi_f_3 : FI := ⟨Tryz.f137.results.toList, bodyOf Tryz.f137.body, Tryz.f137.ntmps, an_f_3⟩
theorem ok_f_3 : FnOK Tryz.prog 137 fi_f_3 := ⟨⟨Tryz.f137, Tryz.func137, by kernel_rfl, rfl, rfl, by kernel_rfl⟩, by kernel_rfl⟩
def phiL_f_3 (N : Nat) : List (Nat × Summ) := [(138, sm_f_20 N)]
def sg_f_3 : Summ := sigOf [.d (.slice tSpot) false, .cl 138 [.str]] true [.d tInt false]
def S_f_3_0 (s : List Spot) (t7 : Int) (t8 : Int) (fpc0 : Txt) : St := ⟨[(0, vv tSpot.slice s), (1, AV.w (V1.one (C.fn 138 [500001]))), (7, vv tInt t7), (8, vv tInt t8)], [(500001, .box [.v Ty.str fpc0])]⟩
noncomputable def E_f_3 (N : Nat) : Env := envOf (tabOf tabL) (tabS (phiL_f_3 N)) inl0 N fi_f_3 [500001]
noncomputable def K_f_3 := (kFun (tabOf tabL) fi_f_3.res (kT (ofDs [tInt, .str]) sg_f_3 [(500001, .bx (.str))]))
noncomputable def its_f_3_0 (N : Nat) (n : Nat) : St → Option (Int × Txt) := fun S' => iter [500001] (annAt fi_f_3 0) (code (E_f_3 N) (lpIn fi_f_3.body 0 0) 0) n S' (contOf (E_f_3 N) fi_f_3.body 0 0 K_f_3)
noncomputable def it_f_3_0 (N : Nat) (s : List Spot) (t7 : Int) (n : Nat) : Int → Txt → Option (Int × Txt) := fun t8 fpc0 => its_f_3_0 N n (S_f_3_0 s t7 t8 fpc0)
theorem fe_f_3_0 (N : Nat) : it_f_3_0 N = f_3_0 N := funext fun s => funext fun t7 => funext (lp_all (by kernel_rfl) fun n => by
 show _ = f_3_0r N s t7 (it_f_3_0 N s t7 n)
 kernel_rfl)
theorem run_f_3 (N : Nat) (s : List Spot) (p1 : Txt) : runST (ofDs [tInt, .str]) (tabOf tabL) (tabS (phiL_f_3 N)) inl0 N fi_f_3 sg_f_3 [⟨.slice tSpot, s⟩, ⟨.str, p1⟩] = F.f_3 N s p1 := by
 show _ = F.f_3b N (F.f_3_0 N) s p1
 rw [← fe_f_3_0 N]
 kernel_rfl
def sm_f_3 (N : Nat) : Summ := summOf [.d (.slice tSpot) false, .cl 138 [.str]] true [.d tInt false] [tInt, .str] (F.f_3 N)
theorem con_f_3 (N : Nat) : Contract Tryz.prog 137 (sm_f_3 N) := con_of (N := N) tabOK mixed (callOK_list (l := phiL_f_3 N) (allc rfl (con_f_20 N) trivial)) (inl0_ok _) ok_f_3 (by decide) fun s p1 => run_f_3 N s p1
def an_f_31 : Nat → Option Ann := fun _ => none
noncomputable def fi_f_31 : FI := ⟨Tryz.f60.results.toList, bodyOf Tryz.f60.body, Tryz.f60.ntmps, an_f_31⟩
theorem ok_f_31 : FnOK Tryz.prog 60 fi_f_31 := ⟨⟨Tryz.f60, Tryz.func60, by kernel_rfl, rfl, rfl, by kernel_rfl⟩, by kernel_rfl⟩
def phiL_f_31 (N : Nat) : List (Nat × Summ) := [(13900137, sm_f_3 N)]
def sg_f_31 : Summ := sigOf [.d tBook true, .d (.str) false] false [.d tInt false]
theorem run_f_31 (N : Nat) (b : Book) (n : Txt) : runST (ofDs [tInt]) (tabOf tabL) (tabS (phiL_f_31 N)) inl0 N fi_f_31 sg_f_31 [⟨tBook, b⟩, ⟨.str, n⟩] = F.f_31 N b n := by kernel_rfl
def sm_f_31 (N : Nat) : Summ := summOf [.d tBook true, .d (.str) false] false [.d tInt false] [tInt] (F.f_31 N)
theorem con_f_31 (N : Nat) : Contract Tryz.prog 60 (sm_f_31 N) := con_of (N := N) tabOK mixed (callOK_list (l := phiL_f_31 N) (allc rfl (con_f_3 N) trivial)) (inl0_ok _) ok_f_31 (by decide) fun b n => run_f_31 N b n
def an_f_46 : Nat → Option Ann := fun _ => none
noncomputable def fi_f_46 : FI := ⟨Tryz.f169.results.toList, bodyOf Tryz.f169.body, Tryz.f169.ntmps, an_f_46⟩
theorem ok_f_46 : FnOK Tryz.prog 169 fi_f_46 := ⟨⟨Tryz.f169, Tryz.func169, by kernel_rfl, rfl, rfl, by kernel_rfl⟩, by kernel_rfl⟩
def phiL_f_46 (N : Nat) : List (Nat × Summ) := [(101, sm_f_15 N)]
def sg_f_46 : Summ := sigOf [.d (.str) false, .bx tTxts] true [.d (.bool) false]
theorem run_f_46 (N : Nat) (s : Txt) (p1 : List Txt) : runST (ofDs [.bool, tTxts]) (tabOf tabL) (tabS (phiL_f_46 N)) inl0 N fi_f_46 sg_f_46 [⟨.str, s⟩, ⟨tTxts, p1⟩] = F.f_46 N s p1 := by kernel_rfl
def sm_f_46 (N : Nat) : Summ := summOf [.d (.str) false, .bx tTxts] true [.d (.bool) false] [.bool, tTxts] (F.f_46 N)
theorem con_f_46 (N : Nat) : Contract Tryz.prog 169 (sm_f_46 N) := con_of (N := N) tabOK mixed (callOK_list (l := phiL_f_46 N) (allc rfl (con_f_15 N) trivial)) (inl0_ok _) ok_f_46 (by decide) fun s p1 => run_f_46 N s p1
def an_f_13 : Nat → Option Ann
 | 0 => some ⟨⟨[(0, kp), (1, kp), (7, kp), (8, kp)], [(500001, [kp])], []⟩, [(0, ⟨[], [(500001, [kp])], []⟩)], ⟨[(4, kp)], [(500001, [kp])], []⟩⟩
 | _ => none
noncomputable def fi_f_13 : FI := ⟨Tryz.f179.results.toList, bodyOf Tryz.f179.body, Tryz.f179.ntmps, an_f_13⟩
theorem ok_f_13 : FnOK Tryz.prog 179 fi_f_13 := ⟨⟨Tryz.f179, Tryz.func179, by kernel_rfl, rfl, rfl, by kernel_rfl⟩, by kernel_rfl⟩
def phiL_f_13 (N : Nat) : List (Nat × Summ) := [(169, sm_f_46 N)]
def sg_f_13 : Summ := sigOf [.d tTxts false, .cl 169 [tTxts]] true [.d tInt false]
def S_f_13_0 (s : List Txt) (t7 : Int) (t8 : Int) (fpc0 : List Txt) : St := ⟨[(0, vv tTxts s), (1, AV.w (V1.one (C.fn 169 [500001]))), (7, vv tInt t7), (8, vv tInt t8)], [(500001, .box [.v tTxts fpc0])]⟩
noncomputable def E_f_13 (N : Nat) : Env := envOf (tabOf tabL) (tabS (phiL_f_13 N)) inl0 N fi_f_13 [500001]
noncomputable def K_f_13 := (kFun (tabOf tabL) fi_f_13.res (kT (ofDs [tInt, tTxts]) sg_f_13 [(500001, .bx tTxts)]))
noncomputable def its_f_13_0 (N : Nat) (n : Nat) : St → Option (Int × List Txt) := fun S' => iter [500001] (annAt fi_f_13 0) (code (E_f_13 N) (lpIn fi_f_13.body 0 0) 0) n S' (contOf (E_f_13 N) fi_f_13.body 0 0 K_f_13)
noncomputable def it_f_13_0 (N : Nat) (s : List Txt) (t7 : Int) (n : Nat) : Int → (List Txt) → Option (Int × List Txt) := fun t8 fpc0 => its_f_13_0 N n (S_f_13_0 s t7 t8 fpc0)
theorem fe_f_13_0 (N : Nat) : it_f_13_0 N = f_13_0 N := funext fun s => funext fun t7 => funext (lp_all (by kernel_rfl) fun n => by
 show _ = f_13_0r N s t7 (it_f_13_0 N s t7 n)
 kernel_rfl)
theorem run_f_13 (N : Nat) (s : List Txt) (p1 : List Txt) : runST (ofDs [tInt, tTxts]) (tabOf tabL) (tabS (phiL_f_13 N)) inl0 N fi_f_13 sg_f_13 [⟨tTxts, s⟩, ⟨tTxts, p1⟩] = F.f_13 N s p1 := by
 show _ = F.f_13b N (F.f_13_0 N) s p1
 rw [← fe_f_13_0 N]
 kernel_rfl
def sm_f_13 (N : Nat) : Summ := summOf [.d tTxts false, .cl 169 [tTxts]] true [.d tInt false] [tInt, tTxts] (F.f_13 N)
theorem con_f_13 (N : Nat) : Contract Tryz.prog 179 (sm_f_13 N) := con_of (N := N) tabOK mixed (callOK_list (l := phiL_f_13 N) (allc rfl (con_f_46 N) trivial)) (inl0_ok _) ok_f_13 (by decide) fun s p1 => run_f_13 N s p1
def an_f_10 : Nat → Option Ann := fun _ => none
noncomputable def fi_f_10 : FI := ⟨Tryz.f168.results.toList, bodyOf Tryz.f168.body, Tryz.f168.ntmps, an_f_10⟩
theorem ok_f_10 : FnOK Tryz.prog 168 fi_f_10 := ⟨⟨Tryz.f168, Tryz.func168, by kernel_rfl, rfl, rfl, by kernel_rfl⟩, by kernel_rfl⟩
def phiL_f_10 (N : Nat) : List (Nat × Summ) := [(17000179, sm_f_13 N)]
def sg_f_10 : Summ := sigOf [.d tTxts false, .cl 169 [tTxts]] true [.d (.bool) false]
theorem run_f_10 (N : Nat) (s : List Txt) (p1 : List Txt) : runST (ofDs [.bool, tTxts]) (tabOf tabL) (tabS (phiL_f_10 N)) inl0 N fi_f_10 sg_f_10 [⟨tTxts, s⟩, ⟨tTxts, p1⟩] = F.f_10 N s p1 := by kernel_rfl
def sm_f_10 (N : Nat) : Summ := summOf [.d tTxts false, .cl 169 [tTxts]] true [.d (.bool) false] [.bool, tTxts] (F.f_10 N)
theorem con_f_10 (N : Nat) : Contract Tryz.prog 168 (sm_f_10 N) := con_of (N := N) tabOK mixed (callOK_list (l := phiL_f_10 N) (allc rfl (con_f_13 N) trivial)) (inl0_ok _) ok_f_10 (by decide) fun s p1 => run_f_10 N s p1
def an_f_81 : Nat → Option Ann := fun _ => none
noncomputable def fi_f_81 : FI := ⟨Tryz.f118.results.toList, bodyOf Tryz.f118.body, Tryz.f118.ntmps, an_f_81⟩
theorem ok_f_81 : FnOK Tryz.prog 118 fi_f_81 := ⟨⟨Tryz.f118, Tryz.func118, by kernel_rfl, rfl, rfl, by kernel_rfl⟩, by kernel_rfl⟩
def phiL_f_81 (N : Nat) : List (Nat × Summ) := [(17000168, sm_f_10 N)]
def sg_f_81 : Summ := sigOf [.d tTxts false, .d tTxts false] false [.d (.bool) false]
theorem run_f_81 (N : Nat) (a : List Txt) (b : List Txt) : runST (ofDs [.bool]) (tabOf tabL) (tabS (phiL_f_81 N)) inl0 N fi_f_81 sg_f_81 [⟨tTxts, a⟩, ⟨tTxts, b⟩] = F.f_81 N a b := by kernel_rfl
def sm_f_81 (N : Nat) : Summ := summOf [.d tTxts false, .d tTxts false] false [.d (.bool) false] [.bool] (F.f_81 N)
theorem con_f_81 (N : Nat) : Contract Tryz.prog 118 (sm_f_81 N) := con_of (N := N) tabOK mixed (callOK_list (l := phiL_f_81 N) (allc rfl (con_f_10 N) trivial)) (inl0_ok _) ok_f_81 (by decide) fun a b => run_f_81 N a b
def an_f_21 : Nat → Option Ann
 | 0 => some ⟨⟨[(2, kp), (3, kp), (8, kp), (9, kp), (10, kp)], [(2, [kp, kp, kp, kp, kp]), (3, [kp, kp, kp, kp, kp, kp])], []⟩, [(0, ⟨[(2, kp), (3, kp)], [(2, [kp, kp, kp, kp, kp]), (3, [kp, kp, kp, kp, kp, kp])], []⟩)], ⟨[(4, kp)], [], []⟩⟩
 | _ => none
noncomputable def fi_f_21 : FI := ⟨Tryz.f113.results.toList, bodyOf Tryz.f113.body, Tryz.f113.ntmps, an_f_21⟩
theorem ok_f_21 : FnOK Tryz.prog 113 fi_f_21 := ⟨⟨Tryz.f113, Tryz.func113, by kernel_rfl, rfl, rfl, by kernel_rfl⟩, by kernel_rfl⟩
def phiL_f_21 (N : Nat) : List (Nat × Summ) := [(60, sm_f_31 N), (118, sm_f_81 N)]
def sg_f_21 : Summ := sigOf [.d tBook true, .d tWant true] false [.d (.bool) false]
def S_f_21_0 (b : Book) (w : Want) (t9 : Int) (t10 : Int) : St := ⟨[(2, vb 2), (3, vb 3), (8, vv tUse.slice w.2.2.2.1), (9, vv tInt t9), (10, vv tInt t10)], [(2, .box [.v tFoe.slice b.1, .v tSpot.slice b.2.1, .v tTxts b.2.2.1, .v tPart.slice b.2.2.2.1, .v tInt b.2.2.2.2]), (3, .box [.v tInt w.1, .v tInt w.2.1, .v tTxts w.2.2.1, .v tUse.slice w.2.2.2.1, .v tTxts w.2.2.2.2.1, .v tTxts w.2.2.2.2.2])]⟩
noncomputable def E_f_21 (N : Nat) : Env := envOf (tabOf tabL) (tabS (phiL_f_21 N)) inl0 N fi_f_21 []
noncomputable def K_f_21 := (kFun (tabOf tabL) fi_f_21.res (kT (ofDs [.bool]) sg_f_21 []))
noncomputable def its_f_21_0 (N : Nat) (n : Nat) : St → Option Bool := fun S' => iter [] (annAt fi_f_21 0) (code (E_f_21 N) (lpIn fi_f_21.body 0 0) 0) n S' (contOf (E_f_21 N) fi_f_21.body 0 0 K_f_21)
noncomputable def it_f_21_0 (N : Nat) (b : Book) (w : Want) (t9 : Int) (n : Nat) : Int → Option Bool := fun t10 => its_f_21_0 N n (S_f_21_0 b w t9 t10)
theorem fe_f_21_0 (N : Nat) : it_f_21_0 N = f_21_0 N := funext fun b => funext fun w => funext fun t9 => funext (lp_all (by kernel_rfl) fun n => by
 show _ = f_21_0r N b w t9 (it_f_21_0 N b w t9 n)
 kernel_rfl)
theorem run_f_21 (N : Nat) (b : Book) (w : Want) : runST (ofDs [.bool]) (tabOf tabL) (tabS (phiL_f_21 N)) inl0 N fi_f_21 sg_f_21 [⟨tBook, b⟩, ⟨tWant, w⟩] = F.f_21 N b w := by
 show _ = F.f_21b N (F.f_21_0 N) b w
 rw [← fe_f_21_0 N]
 kernel_rfl
def sm_f_21 (N : Nat) : Summ := summOf [.d tBook true, .d tWant true] false [.d (.bool) false] [.bool] (F.f_21 N)
theorem con_f_21 (N : Nat) : Contract Tryz.prog 113 (sm_f_21 N) := con_of (N := N) tabOK mixed (callOK_list (l := phiL_f_21 N) (allc rfl (con_f_31 N) (allc rfl (con_f_81 N) trivial))) (inl0_ok _) ok_f_21 (by decide) fun b w => run_f_21 N b w
def an_f_16 : Nat → Option Ann
 | 0 => some ⟨⟨[(2, kp), (5, kp), (28, kp), (29, kp), (30, kp)], [(2, [kp, kp, kp, kp, kp]), (5, [kp, kp, kp, kp, kp, kp])], []⟩, [(0, ⟨[], [], []⟩)], ⟨[(4, kp)], [], []⟩⟩
 | _ => none
noncomputable def fi_f_16 : FI := ⟨Tryz.f75.results.toList, bodyOf Tryz.f75.body, Tryz.f75.ntmps, an_f_16⟩
theorem ok_f_16 : FnOK Tryz.prog 75 fi_f_16 := ⟨⟨Tryz.f75, Tryz.func75, by kernel_rfl, rfl, rfl, by kernel_rfl⟩, by kernel_rfl⟩
def phiL_f_16 (N : Nat) : List (Nat × Summ) := [(46, sm_f_35 N), (113, sm_f_21 N), (60, sm_f_31 N), (118, sm_f_81 N)]
def sg_f_16 : Summ := sigOf [.d tBook true, .d tPart true] false [.d (.bool) false]
def S_f_16_0 (b : Book) (p : Part) (t29 : Int) (t30 : Int) : St := ⟨[(2, vb 2), (5, vb 5), (28, vv tUse.slice p.1.2.2.2.1), (29, vv tInt t29), (30, vv tInt t30)], [(2, .box [.v tFoe.slice b.1, .v tSpot.slice b.2.1, .v tTxts b.2.2.1, .v tPart.slice b.2.2.2.1, .v tInt b.2.2.2.2]), (5, .box [.v tInt p.1.1, .v tInt p.1.2.1, .v tTxts p.1.2.2.1, .v tUse.slice p.1.2.2.2.1, .v tTxts p.1.2.2.2.2.1, .v tTxts p.1.2.2.2.2.2])]⟩
noncomputable def E_f_16 (N : Nat) : Env := envOf (tabOf tabL) (tabS (phiL_f_16 N)) inl0 N fi_f_16 []
noncomputable def K_f_16 := (kFun (tabOf tabL) fi_f_16.res (kT (ofDs [.bool]) sg_f_16 []))
noncomputable def its_f_16_0 (N : Nat) (n : Nat) : St → Option Bool := fun S' => iter [] (annAt fi_f_16 0) (code (E_f_16 N) (lpIn fi_f_16.body 0 0) 0) n S' (contOf (E_f_16 N) fi_f_16.body 0 0 K_f_16)
noncomputable def it_f_16_0 (N : Nat) (b : Book) (p : Part) (t29 : Int) (n : Nat) : Int → Option Bool := fun t30 => its_f_16_0 N n (S_f_16_0 b p t29 t30)
theorem fe_f_16_0 (N : Nat) : it_f_16_0 N = f_16_0 N := funext fun b => funext fun p => funext fun t29 => funext (lp_all (by kernel_rfl) fun n => by
 show _ = f_16_0r N b p t29 (it_f_16_0 N b p t29 n)
 kernel_rfl)
theorem run_f_16 (N : Nat) (b : Book) (p : Part) : runST (ofDs [.bool]) (tabOf tabL) (tabS (phiL_f_16 N)) inl0 N fi_f_16 sg_f_16 [⟨tBook, b⟩, ⟨tPart, p⟩] = F.f_16 N b p := by
 show _ = F.f_16b N (F.f_16_0 N) b p
 rw [← fe_f_16_0 N]
 kernel_rfl
def sm_f_16 (N : Nat) : Summ := summOf [.d tBook true, .d tPart true] false [.d (.bool) false] [.bool] (F.f_16 N)
theorem con_f_16 (N : Nat) : Contract Tryz.prog 75 (sm_f_16 N) := con_of (N := N) tabOK mixed (callOK_list (l := phiL_f_16 N) (allc rfl (con_f_35 N) (allc rfl (con_f_21 N) (allc rfl (con_f_31 N) (allc rfl (con_f_81 N) trivial))))) (inl0_ok _) ok_f_16 (by decide) fun b p => run_f_16 N b p
def an_f_36 : Nat → Option Ann := fun _ => none
noncomputable def fi_f_36 : FI := ⟨Tryz.f145.results.toList, bodyOf Tryz.f145.body, Tryz.f145.ntmps, an_f_36⟩
theorem ok_f_36 : FnOK Tryz.prog 145 fi_f_36 := ⟨⟨Tryz.f145, Tryz.func145, by kernel_rfl, rfl, rfl, by kernel_rfl⟩, by kernel_rfl⟩
def phiL_f_36 (N : Nat) : List (Nat × Summ) := []
def sg_f_36 : Summ := sigOf [.d tUse true, .bx tUse] true [.d (.bool) false]
theorem run_f_36 (N : Nat) (v : Use) (p1 : Use) : runST (ofDs [.bool, tUse]) (tabOf tabL) (tabS (phiL_f_36 N)) inl0 N fi_f_36 sg_f_36 [⟨tUse, v⟩, ⟨tUse, p1⟩] = F.f_36 N v p1 := by kernel_rfl
def sm_f_36 (N : Nat) : Summ := summOf [.d tUse true, .bx tUse] true [.d (.bool) false] [.bool, tUse] (F.f_36 N)
theorem con_f_36 (N : Nat) : Contract Tryz.prog 145 (sm_f_36 N) := con_of (N := N) tabOK mixed (callOK_list (l := phiL_f_36 N) trivial) (inl0_ok _) ok_f_36 (by decide) fun v p1 => run_f_36 N v p1
def an_f_8 : Nat → Option Ann
 | 0 => some ⟨⟨[(0, kp), (1, kp), (7, kp), (8, kp)], [(500001, [kp, kp, kp])], []⟩, [(0, ⟨[], [(500001, [kp, kp, kp])], []⟩)], ⟨[(4, kp)], [(500001, [kp, kp, kp])], []⟩⟩
 | _ => none
noncomputable def fi_f_8 : FI := ⟨Tryz.f178.results.toList, bodyOf Tryz.f178.body, Tryz.f178.ntmps, an_f_8⟩
theorem ok_f_8 : FnOK Tryz.prog 178 fi_f_8 := ⟨⟨Tryz.f178, Tryz.func178, by kernel_rfl, rfl, rfl, by kernel_rfl⟩, by kernel_rfl⟩
def phiL_f_8 (N : Nat) : List (Nat × Summ) := [(145, sm_f_36 N)]
def sg_f_8 : Summ := sigOf [.d (.slice tUse) false, .cl 145 [tUse]] true [.d tInt false]
def S_f_8_0 (s : List Use) (t7 : Int) (t8 : Int) (fpc0 : Txt) (fpc1 : Int) (fpc2 : Int) : St := ⟨[(0, vv tUse.slice s), (1, AV.w (V1.one (C.fn 145 [500001]))), (7, vv tInt t7), (8, vv tInt t8)], [(500001, .box [.v Ty.str fpc0, .v tInt fpc1, .v tInt fpc2])]⟩
noncomputable def E_f_8 (N : Nat) : Env := envOf (tabOf tabL) (tabS (phiL_f_8 N)) inl0 N fi_f_8 [500001]
noncomputable def K_f_8 := (kFun (tabOf tabL) fi_f_8.res (kT (ofDs [tInt, tUse]) sg_f_8 [(500001, .bx tUse)]))
noncomputable def its_f_8_0 (N : Nat) (n : Nat) : St → Option (Int × Use) := fun S' => iter [500001] (annAt fi_f_8 0) (code (E_f_8 N) (lpIn fi_f_8.body 0 0) 0) n S' (contOf (E_f_8 N) fi_f_8.body 0 0 K_f_8)
noncomputable def it_f_8_0 (N : Nat) (s : List Use) (t7 : Int) (n : Nat) : Int → Txt → Int → Int → Option (Int × Use) := fun t8 fpc0 fpc1 fpc2 => its_f_8_0 N n (S_f_8_0 s t7 t8 fpc0 fpc1 fpc2)
theorem fe_f_8_0 (N : Nat) : it_f_8_0 N = f_8_0 N := funext fun s => funext fun t7 => funext (lp_all (by kernel_rfl) fun n => by
 show _ = f_8_0r N s t7 (it_f_8_0 N s t7 n)
 kernel_rfl)
theorem run_f_8 (N : Nat) (s : List Use) (p1 : Use) : runST (ofDs [tInt, tUse]) (tabOf tabL) (tabS (phiL_f_8 N)) inl0 N fi_f_8 sg_f_8 [⟨.slice tUse, s⟩, ⟨tUse, p1⟩] = F.f_8 N s p1 := by
 show _ = F.f_8b N (F.f_8_0 N) s p1
 rw [← fe_f_8_0 N]
 kernel_rfl
def sm_f_8 (N : Nat) : Summ := summOf [.d (.slice tUse) false, .cl 145 [tUse]] true [.d tInt false] [tInt, tUse] (F.f_8 N)
theorem con_f_8 (N : Nat) : Contract Tryz.prog 178 (sm_f_8 N) := con_of (N := N) tabOK mixed (callOK_list (l := phiL_f_8 N) (allc rfl (con_f_36 N) trivial)) (inl0_ok _) ok_f_8 (by decide) fun s p1 => run_f_8 N s p1
def an_f_4 : Nat → Option Ann := fun _ => none
noncomputable def fi_f_4 : FI := ⟨Tryz.f143.results.toList, bodyOf Tryz.f143.body, Tryz.f143.ntmps, an_f_4⟩
theorem ok_f_4 : FnOK Tryz.prog 143 fi_f_4 := ⟨⟨Tryz.f143, Tryz.func143, by kernel_rfl, rfl, rfl, by kernel_rfl⟩, by kernel_rfl⟩
def phiL_f_4 (N : Nat) : List (Nat × Summ) := [(14600178, sm_f_8 N)]
def sg_f_4 : Summ := sigOf [.d (.slice tUse) false, .cl 145 [tUse]] true [.d (.bool) false]
theorem run_f_4 (N : Nat) (s : List Use) (p1 : Use) : runST (ofDs [.bool, tUse]) (tabOf tabL) (tabS (phiL_f_4 N)) inl0 N fi_f_4 sg_f_4 [⟨.slice tUse, s⟩, ⟨tUse, p1⟩] = F.f_4 N s p1 := by kernel_rfl
def sm_f_4 (N : Nat) : Summ := summOf [.d (.slice tUse) false, .cl 145 [tUse]] true [.d (.bool) false] [.bool, tUse] (F.f_4 N)
theorem con_f_4 (N : Nat) : Contract Tryz.prog 143 (sm_f_4 N) := con_of (N := N) tabOK mixed (callOK_list (l := phiL_f_4 N) (allc rfl (con_f_8 N) trivial)) (inl0_ok _) ok_f_4 (by decide) fun s p1 => run_f_4 N s p1
def an_f_58 : Nat → Option Ann := fun _ => none
noncomputable def fi_f_58 : FI := ⟨Tryz.f144.results.toList, bodyOf Tryz.f144.body, Tryz.f144.ntmps, an_f_58⟩
theorem ok_f_58 : FnOK Tryz.prog 144 fi_f_58 := ⟨⟨Tryz.f144, Tryz.func144, by kernel_rfl, rfl, rfl, by kernel_rfl⟩, by kernel_rfl⟩
def phiL_f_58 (N : Nat) : List (Nat × Summ) := [(14600143, sm_f_4 N)]
def sg_f_58 : Summ := sigOf [.d tUse true, .bx tWant] true [.d (.bool) false]
theorem run_f_58 (N : Nat) (u : Use) (p1 : Want) : runST (ofDs [.bool, tWant]) (tabOf tabL) (tabS (phiL_f_58 N)) inl0 N fi_f_58 sg_f_58 [⟨tUse, u⟩, ⟨tWant, p1⟩] = F.f_58 N u p1 := by kernel_rfl
def sm_f_58 (N : Nat) : Summ := summOf [.d tUse true, .bx tWant] true [.d (.bool) false] [.bool, tWant] (F.f_58 N)
theorem con_f_58 (N : Nat) : Contract Tryz.prog 144 (sm_f_58 N) := con_of (N := N) tabOK mixed (callOK_list (l := phiL_f_58 N) (allc rfl (con_f_4 N) trivial)) (inl0_ok _) ok_f_58 (by decide) fun u p1 => run_f_58 N u p1
def an_f_11 : Nat → Option Ann
 | 0 => some ⟨⟨[(0, kp), (1, kp), (7, kp), (8, kp)], [(500001, [kp, kp, kp, kp, kp, kp])], []⟩, [(0, ⟨[], [(500001, [kp, kp, kp, kp, kp, kp])], []⟩)], ⟨[(4, kp)], [(500001, [kp, kp, kp, kp, kp, kp])], []⟩⟩
 | _ => none
noncomputable def fi_f_11 : FI := ⟨Tryz.f178.results.toList, bodyOf Tryz.f178.body, Tryz.f178.ntmps, an_f_11⟩
theorem ok_f_11 : FnOK Tryz.prog 178 fi_f_11 := ⟨⟨Tryz.f178, Tryz.func178, by kernel_rfl, rfl, rfl, by kernel_rfl⟩, by kernel_rfl⟩
def phiL_f_11 (N : Nat) : List (Nat × Summ) := [(144, sm_f_58 N)]
def sg_f_11 : Summ := sigOf [.d (.slice tUse) false, .cl 144 [tWant]] true [.d tInt false]
def S_f_11_0 (s : List Use) (t7 : Int) (t8 : Int) (fpc0 : Int) (fpc1 : Int) (fpc2 : List Txt) (fpc3 : List Use) (fpc4 : List Txt) (fpc5 : List Txt) : St := ⟨[(0, vv tUse.slice s), (1, AV.w (V1.one (C.fn 144 [500001]))), (7, vv tInt t7), (8, vv tInt t8)], [(500001, .box [.v tInt fpc0, .v tInt fpc1, .v tTxts fpc2, .v tUse.slice fpc3, .v tTxts fpc4, .v tTxts fpc5])]⟩
noncomputable def E_f_11 (N : Nat) : Env := envOf (tabOf tabL) (tabS (phiL_f_11 N)) inl0 N fi_f_11 [500001]
noncomputable def K_f_11 := (kFun (tabOf tabL) fi_f_11.res (kT (ofDs [tInt, tWant]) sg_f_11 [(500001, .bx tWant)]))
noncomputable def its_f_11_0 (N : Nat) (n : Nat) : St → Option (Int × Want) := fun S' => iter [500001] (annAt fi_f_11 0) (code (E_f_11 N) (lpIn fi_f_11.body 0 0) 0) n S' (contOf (E_f_11 N) fi_f_11.body 0 0 K_f_11)
noncomputable def it_f_11_0 (N : Nat) (s : List Use) (t7 : Int) (n : Nat) : Int → Int → Int → (List Txt) → (List Use) → (List Txt) → (List Txt) → Option (Int × Want) := fun t8 fpc0 fpc1 fpc2 fpc3 fpc4 fpc5 => its_f_11_0 N n (S_f_11_0 s t7 t8 fpc0 fpc1 fpc2 fpc3 fpc4 fpc5)
theorem fe_f_11_0 (N : Nat) : it_f_11_0 N = f_11_0 N := funext fun s => funext fun t7 => funext (lp_all (by kernel_rfl) fun n => by
 show _ = f_11_0r N s t7 (it_f_11_0 N s t7 n)
 kernel_rfl)
theorem run_f_11 (N : Nat) (s : List Use) (p1 : Want) : runST (ofDs [tInt, tWant]) (tabOf tabL) (tabS (phiL_f_11 N)) inl0 N fi_f_11 sg_f_11 [⟨.slice tUse, s⟩, ⟨tWant, p1⟩] = F.f_11 N s p1 := by
 show _ = F.f_11b N (F.f_11_0 N) s p1
 rw [← fe_f_11_0 N]
 kernel_rfl
def sm_f_11 (N : Nat) : Summ := summOf [.d (.slice tUse) false, .cl 144 [tWant]] true [.d tInt false] [tInt, tWant] (F.f_11 N)
theorem con_f_11 (N : Nat) : Contract Tryz.prog 178 (sm_f_11 N) := con_of (N := N) tabOK mixed (callOK_list (l := phiL_f_11 N) (allc rfl (con_f_58 N) trivial)) (inl0_ok _) ok_f_11 (by decide) fun s p1 => run_f_11 N s p1
def an_f_7 : Nat → Option Ann := fun _ => none
noncomputable def fi_f_7 : FI := ⟨Tryz.f143.results.toList, bodyOf Tryz.f143.body, Tryz.f143.ntmps, an_f_7⟩
theorem ok_f_7 : FnOK Tryz.prog 143 fi_f_7 := ⟨⟨Tryz.f143, Tryz.func143, by kernel_rfl, rfl, rfl, by kernel_rfl⟩, by kernel_rfl⟩
def phiL_f_7 (N : Nat) : List (Nat × Summ) := [(14500178, sm_f_11 N)]
def sg_f_7 : Summ := sigOf [.d (.slice tUse) false, .cl 144 [tWant]] true [.d (.bool) false]
theorem run_f_7 (N : Nat) (s : List Use) (p1 : Want) : runST (ofDs [.bool, tWant]) (tabOf tabL) (tabS (phiL_f_7 N)) inl0 N fi_f_7 sg_f_7 [⟨.slice tUse, s⟩, ⟨tWant, p1⟩] = F.f_7 N s p1 := by kernel_rfl
def sm_f_7 (N : Nat) : Summ := summOf [.d (.slice tUse) false, .cl 144 [tWant]] true [.d (.bool) false] [.bool, tWant] (F.f_7 N)
theorem con_f_7 (N : Nat) : Contract Tryz.prog 143 (sm_f_7 N) := con_of (N := N) tabOK mixed (callOK_list (l := phiL_f_7 N) (allc rfl (con_f_11 N) trivial)) (inl0_ok _) ok_f_7 (by decide) fun s p1 => run_f_7 N s p1
def an_f_99 : Nat → Option Ann := fun _ => none
noncomputable def fi_f_99 : FI := ⟨Tryz.f76.results.toList, bodyOf Tryz.f76.body, Tryz.f76.ntmps, an_f_99⟩
theorem ok_f_99 : FnOK Tryz.prog 76 fi_f_99 := ⟨⟨Tryz.f76, Tryz.func76, by kernel_rfl, rfl, rfl, by kernel_rfl⟩, by kernel_rfl⟩
def phiL_f_99 (N : Nat) : List (Nat × Summ) := [(14500143, sm_f_7 N)]
def sg_f_99 : Summ := sigOf [.d tWant true, .d tWant true] false [.d (.bool) false]
theorem run_f_99 (N : Nat) (a : Want) (b : Want) : runST (ofDs [.bool]) (tabOf tabL) (tabS (phiL_f_99 N)) inl0 N fi_f_99 sg_f_99 [⟨tWant, a⟩, ⟨tWant, b⟩] = F.f_99 N a b := by kernel_rfl
def sm_f_99 (N : Nat) : Summ := summOf [.d tWant true, .d tWant true] false [.d (.bool) false] [.bool] (F.f_99 N)
theorem con_f_99 (N : Nat) : Contract Tryz.prog 76 (sm_f_99 N) := con_of (N := N) tabOK mixed (callOK_list (l := phiL_f_99 N) (allc rfl (con_f_7 N) trivial)) (inl0_ok _) ok_f_99 (by decide) fun a b => run_f_99 N a b
def an_f_97 : Nat → Option Ann := fun _ => none
noncomputable def fi_f_97 : FI := ⟨Tryz.f77.results.toList, bodyOf Tryz.f77.body, Tryz.f77.ntmps, an_f_97⟩
theorem ok_f_97 : FnOK Tryz.prog 77 fi_f_97 := ⟨⟨Tryz.f77, Tryz.func77, by kernel_rfl, rfl, rfl, by kernel_rfl⟩, by kernel_rfl⟩
def phiL_f_97 (N : Nat) : List (Nat × Summ) := [(125, sm_f_80 N)]
def sg_f_97 : Summ := sigOf [.d tWant true, .d tWant true] false [.d (.bool) false]
theorem run_f_97 (N : Nat) (a : Want) (b : Want) : runST (ofDs [.bool]) (tabOf tabL) (tabS (phiL_f_97 N)) inl0 N fi_f_97 sg_f_97 [⟨tWant, a⟩, ⟨tWant, b⟩] = F.f_97 N a b := by kernel_rfl
def sm_f_97 (N : Nat) : Summ := summOf [.d tWant true, .d tWant true] false [.d (.bool) false] [.bool] (F.f_97 N)
theorem con_f_97 (N : Nat) : Contract Tryz.prog 77 (sm_f_97 N) := con_of (N := N) tabOK mixed (callOK_list (l := phiL_f_97 N) (allc rfl (con_f_80 N) trivial)) (inl0_ok _) ok_f_97 (by decide) fun a b => run_f_97 N a b
def an_f_34 : Nat → Option Ann
 | 0 => some ⟨⟨[(1, kp), (40, kp), (41, kp), (42, kp)], [(1, [kp, kp, kp, kp, kp])], []⟩, [(0, ⟨[(1, kp)], [(1, [kp, kp, kp, kp, kp])], []⟩)], ⟨[(2, kp)], [], []⟩⟩
 | 2 => some ⟨⟨[(1, kp), (81, kp), (82, kp), (83, kp)], [(1, [kp, kp, kp, kp, kp])], []⟩, [(2, ⟨[(1, kp)], [(1, [kp, kp, kp, kp, kp])], []⟩)], ⟨[(2, kp)], [], []⟩⟩
 | 4 => some ⟨⟨[(1, kp), (149, kp), (150, kp), (151, kp)], [(1, [kp, kp, kp, kp, kp])], []⟩, [(4, ⟨[], [], []⟩)], ⟨[(2, kp)], [], []⟩⟩
 | 6 => some ⟨⟨[(1, kp), (8, kp), (149, kp), (150, kp), (151, kp), (181, kp), (182, kp), (183, kp)], [(1, [kp, kp, kp, kp, kp]), (8, [kp, kp, kp, kp, kp, kp, kp])], []⟩, [(6, ⟨[(1, kp), (149, kp), (150, kp), (151, kp)], [(1, [kp, kp, kp, kp, kp])], []⟩)], ⟨[(2, kp)], [], []⟩⟩
 | _ => none
noncomputable def fi_f_34 : FI := ⟨Tryz.f22.results.toList, bodyOf Tryz.f22.body, Tryz.f22.ntmps, an_f_34⟩
theorem ok_f_34 : FnOK Tryz.prog 22 fi_f_34 := ⟨⟨Tryz.f22, Tryz.func22, by kernel_rfl, rfl, rfl, by kernel_rfl⟩, by kernel_rfl⟩
def phiL_f_34 (N : Nat) : List (Nat × Summ) := [(70, sm_f_98 N), (71, sm_f_120 N), (72, sm_f_114 N), (73, sm_f_24 N), (74, sm_f_22 N), (75, sm_f_16 N), (76, sm_f_99 N), (77, sm_f_97 N)]
def sg_f_34 : Summ := sigOf [.d tBook true] false [.d (.bool) false]
def S_f_34_6 (b : Book) (t150 : Int) (t151 : Int) (t181 : List Part) (t182 : Int) (p8c0 : Int) (p8c1 : Int) (p8c2 : List Txt) (p8c3 : List Use) (p8c4 : List Txt) (p8c5 : List Txt) (p8c6 : Bool) (t183 : Int) : St := ⟨[(1, vb 1), (8, vb 8), (149, vv tPart.slice b.2.2.2.1), (150, vv tInt t150), (151, vv tInt t151), (181, vv tPart.slice t181), (182, vv tInt t182), (183, vv tInt t183)], [(1, .box [.v tFoe.slice b.1, .v tSpot.slice b.2.1, .v tTxts b.2.2.1, .v tPart.slice b.2.2.2.1, .v tInt b.2.2.2.2]), (8, .box [.v tInt p8c0, .v tInt p8c1, .v tTxts p8c2, .v tUse.slice p8c3, .v tTxts p8c4, .v tTxts p8c5, .v Ty.bool p8c6])]⟩
def S_f_34_4 (b : Book) (t150 : Int) (t151 : Int) : St := ⟨[(1, vb 1), (149, vv tPart.slice b.2.2.2.1), (150, vv tInt t150), (151, vv tInt t151)], [(1, .box [.v tFoe.slice b.1, .v tSpot.slice b.2.1, .v tTxts b.2.2.1, .v tPart.slice b.2.2.2.1, .v tInt b.2.2.2.2])]⟩
def S_f_34_2 (b : Book) (t82 : Int) (t83 : Int) : St := ⟨[(1, vb 1), (81, vv tSpot.slice b.2.1), (82, vv tInt t82), (83, vv tInt t83)], [(1, .box [.v tFoe.slice b.1, .v tSpot.slice b.2.1, .v tTxts b.2.2.1, .v tPart.slice b.2.2.2.1, .v tInt b.2.2.2.2])]⟩
def S_f_34_0 (b : Book) (t41 : Int) (t42 : Int) : St := ⟨[(1, vb 1), (40, vv tFoe.slice b.1), (41, vv tInt t41), (42, vv tInt t42)], [(1, .box [.v tFoe.slice b.1, .v tSpot.slice b.2.1, .v tTxts b.2.2.1, .v tPart.slice b.2.2.2.1, .v tInt b.2.2.2.2])]⟩
noncomputable def E_f_34 (N : Nat) : Env := envOf (tabOf tabL) (tabS (phiL_f_34 N)) inl0 N fi_f_34 []
noncomputable def K_f_34 := (kFun (tabOf tabL) fi_f_34.res (kT (ofDs [.bool]) sg_f_34 []))
noncomputable def its_f_34_6 (N : Nat) (nxS4 : St → Option Bool) (n : Nat) : St → Option Bool := fun S' => iter [] (annAt fi_f_34 6) (code (E_f_34 N) (lpIn (lpIn fi_f_34.body 0 4) 4 6) 6) n S' (contOf (E_f_34 N) (lpIn fi_f_34.body 0 4) 4 6 (kLoop [] (annAt fi_f_34 4) nxS4 (contOf (E_f_34 N) fi_f_34.body 0 4 K_f_34)))
noncomputable def it_f_34_6 (N : Nat) (nxS4 : St → Option Bool) (b : Book) (t150 : Int) (t151 : Int) (t181 : List Part) (t182 : Int) (p8c0 : Int) (p8c1 : Int) (p8c2 : List Txt) (p8c3 : List Use) (p8c4 : List Txt) (p8c5 : List Txt) (p8c6 : Bool) (n : Nat) : Int → Option Bool := fun t183 => its_f_34_6 N nxS4 n (S_f_34_6 b t150 t151 t181 t182 p8c0 p8c1 p8c2 p8c3 p8c4 p8c5 p8c6 t183)
theorem fe_f_34_6 (N : Nat) (nxS4 : St → Option Bool) (b : Book) (t150 : Int) : it_f_34_6 N nxS4 b t150 = f_34_6 N (fun t151 => nxS4 (S_f_34_4 b t150 t151)) b t150 := funext fun t151 => funext fun t181 => funext fun t182 => funext fun p8c0 => funext fun p8c1 => funext fun p8c2 => funext fun p8c3 => funext fun p8c4 => funext fun p8c5 => funext fun p8c6 => funext (lp_all (by kernel_rfl) fun n => by
 show _ = f_34_6r N (fun t151 => nxS4 (S_f_34_4 b t150 t151)) b t150 t151 t181 t182 p8c0 p8c1 p8c2 p8c3 p8c4 p8c5 p8c6 (it_f_34_6 N nxS4 b t150 t151 t181 t182 p8c0 p8c1 p8c2 p8c3 p8c4 p8c5 p8c6 n)
 kernel_rfl)
noncomputable def its_f_34_4 (N : Nat) (n : Nat) : St → Option Bool := fun S' => iter [] (annAt fi_f_34 4) (code (E_f_34 N) (lpIn fi_f_34.body 0 4) 4) n S' (contOf (E_f_34 N) fi_f_34.body 0 4 K_f_34)
noncomputable def it_f_34_4 (N : Nat) (b : Book) (t150 : Int) (n : Nat) : Int → Option Bool := fun t151 => its_f_34_4 N n (S_f_34_4 b t150 t151)
theorem fe_f_34_4 (N : Nat) : it_f_34_4 N = f_34_4 N := funext fun b => funext fun t150 => funext (lp_all (by kernel_rfl) fun n => by
 show _ = f_34_4r N (f_34_6 N (it_f_34_4 N b t150 n) b t150) b t150 (it_f_34_4 N b t150 n)
 rw [show f_34_6 N (it_f_34_4 N b t150 n) b t150 = it_f_34_6 N (its_f_34_4 N n) b t150 from (fe_f_34_6 N (its_f_34_4 N n) b t150).symm]
 kernel_rfl)
noncomputable def its_f_34_2 (N : Nat) (n : Nat) : St → Option Bool := fun S' => iter [] (annAt fi_f_34 2) (code (E_f_34 N) (lpIn fi_f_34.body 0 2) 2) n S' (contOf (E_f_34 N) fi_f_34.body 0 2 K_f_34)
noncomputable def it_f_34_2 (N : Nat) (b : Book) (t82 : Int) (n : Nat) : Int → Option Bool := fun t83 => its_f_34_2 N n (S_f_34_2 b t82 t83)
theorem fe_f_34_2 (N : Nat) : it_f_34_2 N = f_34_2 N := funext fun b => funext fun t82 => funext (lp_all (by kernel_rfl) fun n => by
 show _ = f_34_2r N (f_34_4 N) b t82 (it_f_34_2 N b t82 n)
 rw [show f_34_4 N = it_f_34_4 N from (fe_f_34_4 N).symm]
 kernel_rfl)
noncomputable def its_f_34_0 (N : Nat) (n : Nat) : St → Option Bool := fun S' => iter [] (annAt fi_f_34 0) (code (E_f_34 N) (lpIn fi_f_34.body 0 0) 0) n S' (contOf (E_f_34 N) fi_f_34.body 0 0 K_f_34)
noncomputable def it_f_34_0 (N : Nat) (b : Book) (t41 : Int) (n : Nat) : Int → Option Bool := fun t42 => its_f_34_0 N n (S_f_34_0 b t41 t42)
theorem fe_f_34_0 (N : Nat) : it_f_34_0 N = f_34_0 N := funext fun b => funext fun t41 => funext (lp_all (by kernel_rfl) fun n => by
 show _ = f_34_0r N (f_34_2 N) b t41 (it_f_34_0 N b t41 n)
 rw [show f_34_2 N = it_f_34_2 N from (fe_f_34_2 N).symm]
 kernel_rfl)
theorem run_f_34 (N : Nat) (b : Book) : runST (ofDs [.bool]) (tabOf tabL) (tabS (phiL_f_34 N)) inl0 N fi_f_34 sg_f_34 [⟨tBook, b⟩] = F.f_34 N b := by
 show _ = F.f_34b N (F.f_34_0 N) b
 rw [← fe_f_34_0 N]
 kernel_rfl
def sm_f_34 (N : Nat) : Summ := summOf [.d tBook true] false [.d (.bool) false] [.bool] (F.f_34 N)
theorem con_f_34 (N : Nat) : Contract Tryz.prog 22 (sm_f_34 N) := con_of (N := N) tabOK mixed (callOK_list (l := phiL_f_34 N) (allc rfl (con_f_98 N) (allc rfl (con_f_120 N) (allc rfl (con_f_114 N) (allc rfl (con_f_24 N) (allc rfl (con_f_22 N) (allc rfl (con_f_16 N) (allc rfl (con_f_99 N) (allc rfl (con_f_97 N) trivial))))))))) (inl0_ok _) ok_f_34 (by decide) fun b => run_f_34 N b
def an_f_17 : Nat → Option Ann := fun _ => none
noncomputable def fi_f_17 : FI := ⟨Tryz.f133.results.toList, bodyOf Tryz.f133.body, Tryz.f133.ntmps, an_f_17⟩
theorem ok_f_17 : FnOK Tryz.prog 133 fi_f_17 := ⟨⟨Tryz.f133, Tryz.func133, by kernel_rfl, rfl, rfl, by kernel_rfl⟩, by kernel_rfl⟩
def phiL_f_17 (N : Nat) : List (Nat × Summ) := []
def sg_f_17 : Summ := sigOf [.d (.slice tFoe) false] false [.own (.slice tFoe) false [(106, none)]]
theorem run_f_17 (N : Nat) (s : List Foe) : runST (ofDs [.slice tFoe]) (tabOf tabL) (tabS (phiL_f_17 N)) inl0 N fi_f_17 sg_f_17 [⟨.slice tFoe, s⟩] = F.f_17 N s := by kernel_rfl
def sm_f_17 (N : Nat) : Summ := summOf [.d (.slice tFoe) false] false [.own (.slice tFoe) false [(106, none)]] [.slice tFoe] (F.f_17 N)
theorem con_f_17 (N : Nat) : Contract Tryz.prog 133 (sm_f_17 N) := con_of (N := N) tabOK mixed (callOK_list (l := phiL_f_17 N) trivial) (inl0_ok _) ok_f_17 (by decide) fun s => run_f_17 N s
def an_f_25 : Nat → Option Ann := fun _ => none
noncomputable def fi_f_25 : FI := ⟨Tryz.f134.results.toList, bodyOf Tryz.f134.body, Tryz.f134.ntmps, an_f_25⟩
theorem ok_f_25 : FnOK Tryz.prog 134 fi_f_25 := ⟨⟨Tryz.f134, Tryz.func134, by kernel_rfl, rfl, rfl, by kernel_rfl⟩, by kernel_rfl⟩
def phiL_f_25 (N : Nat) : List (Nat × Summ) := []
def sg_f_25 : Summ := sigOf [.d tTxts false] false [.own tTxts false [(9, none)]]
theorem run_f_25 (N : Nat) (s : List Txt) : runST (ofDs [tTxts]) (tabOf tabL) (tabS (phiL_f_25 N)) inl0 N fi_f_25 sg_f_25 [⟨tTxts, s⟩] = F.f_25 N s := by kernel_rfl
def sm_f_25 (N : Nat) : Summ := summOf [.d tTxts false] false [.own tTxts false [(9, none)]] [tTxts] (F.f_25 N)
theorem con_f_25 (N : Nat) : Contract Tryz.prog 134 (sm_f_25 N) := con_of (N := N) tabOK mixed (callOK_list (l := phiL_f_25 N) trivial) (inl0_ok _) ok_f_25 (by decide) fun s => run_f_25 N s
def an_f_18 : Nat → Option Ann := fun _ => none
noncomputable def fi_f_18 : FI := ⟨Tryz.f139.results.toList, bodyOf Tryz.f139.body, Tryz.f139.ntmps, an_f_18⟩
theorem ok_f_18 : FnOK Tryz.prog 139 fi_f_18 := ⟨⟨Tryz.f139, Tryz.func139, by kernel_rfl, rfl, rfl, by kernel_rfl⟩, by kernel_rfl⟩
def phiL_f_18 (N : Nat) : List (Nat × Summ) := []
def sg_f_18 : Summ := sigOf [.d (.slice tUse) false] false [.own (.slice tUse) false [(82, none)]]
theorem run_f_18 (N : Nat) (s : List Use) : runST (ofDs [.slice tUse]) (tabOf tabL) (tabS (phiL_f_18 N)) inl0 N fi_f_18 sg_f_18 [⟨.slice tUse, s⟩] = F.f_18 N s := by kernel_rfl
def sm_f_18 (N : Nat) : Summ := summOf [.d (.slice tUse) false] false [.own (.slice tUse) false [(82, none)]] [.slice tUse] (F.f_18 N)
theorem con_f_18 (N : Nat) : Contract Tryz.prog 139 (sm_f_18 N) := con_of (N := N) tabOK mixed (callOK_list (l := phiL_f_18 N) trivial) (inl0_ok _) ok_f_18 (by decide) fun s => run_f_18 N s
def an_f_57 : Nat → Option Ann := fun _ => none
noncomputable def fi_f_57 : FI := ⟨Tryz.f65.results.toList, bodyOf Tryz.f65.body, Tryz.f65.ntmps, an_f_57⟩
theorem ok_f_57 : FnOK Tryz.prog 65 fi_f_57 := ⟨⟨Tryz.f65, Tryz.func65, by kernel_rfl, rfl, rfl, by kernel_rfl⟩, by kernel_rfl⟩
def phiL_f_57 (N : Nat) : List (Nat × Summ) := [(134, sm_f_25 N), (139, sm_f_18 N)]
def sg_f_57 : Summ := sigOf [.d tWant true] false [.own tWant true [(9, none), (82, none), (9, none), (9, none)]]
theorem run_f_57 (N : Nat) (w : Want) : runST (ofDs [tWant]) (tabOf tabL) (tabS (phiL_f_57 N)) inl0 N fi_f_57 sg_f_57 [⟨tWant, w⟩] = F.f_57 N w := by kernel_rfl
def sm_f_57 (N : Nat) : Summ := summOf [.d tWant true] false [.own tWant true [(9, none), (82, none), (9, none), (9, none)]] [tWant] (F.f_57 N)
theorem con_f_57 (N : Nat) : Contract Tryz.prog 65 (sm_f_57 N) := con_of (N := N) tabOK mixed (callOK_list (l := phiL_f_57 N) (allc rfl (con_f_25 N) (allc rfl (con_f_18 N) trivial))) (inl0_ok _) ok_f_57 (by decide) fun w => run_f_57 N w
def an_f_56 : Nat → Option Ann
 | 0 => some ⟨⟨[(1, kp), (2, kp), (3, kp), (18, kp), (19, kp), (20, kp)], [(1, [kp, kp, kp, kp, kp]), (2, [kp, kp, kp, kp, kp]), (3, [.own 1000300 106 tFoe, Dir.dow 1000301 34 [9] tSpot, .own 1000302 9 Ty.str, kp, kp])], []⟩, [(0, ⟨[(1, kp), (2, kp), (3, kp)], [(1, [kp, kp, kp, kp, kp]), (2, [kp, kp, kp, kp, kp]), (3, [.own 1000300 106 tFoe, Dir.dow 1000301 34 [9] tSpot, .own 1000302 9 Ty.str, kp, kp])], []⟩)], ⟨[], [], []⟩⟩
 | 2 => some ⟨⟨[(2, kp), (3, kp), (36, kp), (37, kp), (38, kp)], [(2, [kp, kp, kp, kp, kp]), (3, [.own 1000300 106 tFoe, Dir.dow 1000301 34 [9] tSpot, .own 1000302 9 Ty.str, Dir.dow 1000303 94 [9, 82, 9, 9] tPart, kp])], []⟩, [(2, ⟨[(2, kp), (3, kp)], [(2, [kp, kp, kp, kp, kp]), (3, [.own 1000300 106 tFoe, Dir.dow 1000301 34 [9] tSpot, .own 1000302 9 Ty.str, Dir.dow 1000303 94 [9, 82, 9, 9] tPart, kp])], []⟩)], ⟨[], [], []⟩⟩
 | _ => none
noncomputable def fi_f_56 : FI := ⟨Tryz.f56.results.toList, bodyOf Tryz.f56.body, Tryz.f56.ntmps, an_f_56⟩
theorem ok_f_56 : FnOK Tryz.prog 56 fi_f_56 := ⟨⟨Tryz.f56, Tryz.func56, by kernel_rfl, rfl, rfl, by kernel_rfl⟩, by kernel_rfl⟩
def phiL_f_56 (N : Nat) : List (Nat × Summ) := [(133, sm_f_17 N), (134, sm_f_25 N), (65, sm_f_57 N)]
def sg_f_56 : Summ := sigOf [.d tBook true] false [.own tBook true [(106, none), (34, (some [9])), (9, none), (94, (some [9, 82, 9, 9]))]]
def S_f_56_2 (b : Book) (r : List Foe) (r_1 : List Txt) (t2c4 : Int) (out3c1a : List Spot) (t37 : Int) (t38 : Int) (out3c3a : List Part) : St := ⟨[(2, vb 2), (3, vb 3), (36, vv tPart.slice b.2.2.2.1), (37, vv tInt t37), (38, vv tInt t38)], [(2, .box [.emp, .emp, .emp, .emp, .v tInt t2c4]), (3, .box [.arr 1000300, .arr 1000301, .arr 1000302, .arr 1000303, .v tInt b.2.2.2.2]), (1000300, .arr 106 tFoe r), (1000301, .arr 34 tSpot out3c1a (Dp.yes [9])), (1000302, .arr 9 Ty.str r_1), (1000303, .arr 94 tPart out3c3a (Dp.yes [9, 82, 9, 9]))]⟩
def S_f_56_0 (b : Book) (r : List Foe) (r_1 : List Txt) (t19 : Int) (t2c4 : Int) (t20 : Int) (out3c1a : List Spot) : St := ⟨[(1, vb 1), (2, vb 2), (3, vb 3), (18, vv tSpot.slice b.2.1), (19, vv tInt t19), (20, vv tInt t20)], [(1, .box [.v tFoe.slice b.1, .v tSpot.slice b.2.1, .v tTxts b.2.2.1, .v tPart.slice b.2.2.2.1, .v tInt b.2.2.2.2]), (2, .box [.emp, .emp, .emp, .emp, .v tInt t2c4]), (3, .box [.arr 1000300, .arr 1000301, .arr 1000302, .emp, .v tInt b.2.2.2.2]), (1000300, .arr 106 tFoe r), (1000301, .arr 34 tSpot out3c1a (Dp.yes [9])), (1000302, .arr 9 Ty.str r_1)]⟩
noncomputable def E_f_56 (N : Nat) : Env := envOf (tabOf tabL) (tabS (phiL_f_56 N)) inl0 N fi_f_56 []
noncomputable def K_f_56 := (kFun (tabOf tabL) fi_f_56.res (kT (ofDs [tBook]) sg_f_56 []))
noncomputable def its_f_56_2 (N : Nat) (n : Nat) : St → Option Book := fun S' => iter [] (annAt fi_f_56 2) (code (E_f_56 N) (lpIn fi_f_56.body 0 2) 2) n S' (contOf (E_f_56 N) fi_f_56.body 0 2 K_f_56)
noncomputable def it_f_56_2 (N : Nat) (b : Book) (r : List Foe) (r_1 : List Txt) (t2c4 : Int) (out3c1a : List Spot) (t37 : Int) (n : Nat) : Int → (List Part) → Option Book := fun t38 out3c3a => its_f_56_2 N n (S_f_56_2 b r r_1 t2c4 out3c1a t37 t38 out3c3a)
theorem fe_f_56_2 (N : Nat) : it_f_56_2 N = f_56_2 N := funext fun b => funext fun r => funext fun r_1 => funext fun t2c4 => funext fun out3c1a => funext fun t37 => funext (lp_all (by kernel_rfl) fun n => by
 show _ = f_56_2r N b r r_1 t2c4 out3c1a t37 (it_f_56_2 N b r r_1 t2c4 out3c1a t37 n)
 kernel_rfl)
noncomputable def its_f_56_0 (N : Nat) (n : Nat) : St → Option Book := fun S' => iter [] (annAt fi_f_56 0) (code (E_f_56 N) (lpIn fi_f_56.body 0 0) 0) n S' (contOf (E_f_56 N) fi_f_56.body 0 0 K_f_56)
noncomputable def it_f_56_0 (N : Nat) (b : Book) (r : List Foe) (r_1 : List Txt) (t19 : Int) (t2c4 : Int) (n : Nat) : Int → (List Spot) → Option Book := fun t20 out3c1a => its_f_56_0 N n (S_f_56_0 b r r_1 t19 t2c4 t20 out3c1a)
theorem fe_f_56_0 (N : Nat) : it_f_56_0 N = f_56_0 N := funext fun b => funext fun r => funext fun r_1 => funext fun t19 => funext fun t2c4 => funext (lp_all (by kernel_rfl) fun n => by
 show _ = f_56_0r N (f_56_2 N) b r r_1 t19 t2c4 (it_f_56_0 N b r r_1 t19 t2c4 n)
 rw [show f_56_2 N = it_f_56_2 N from (fe_f_56_2 N).symm]
 kernel_rfl)
theorem run_f_56 (N : Nat) (b : Book) : runST (ofDs [tBook]) (tabOf tabL) (tabS (phiL_f_56 N)) inl0 N fi_f_56 sg_f_56 [⟨tBook, b⟩] = F.f_56 N b := by
 show _ = F.f_56b N (F.f_56_0 N) b
 rw [← fe_f_56_0 N]
 kernel_rfl
def sm_f_56 (N : Nat) : Summ := summOf [.d tBook true] false [.own tBook true [(106, none), (34, (some [9])), (9, none), (94, (some [9, 82, 9, 9]))]] [tBook] (F.f_56 N)
theorem con_f_56 (N : Nat) : Contract Tryz.prog 56 (sm_f_56 N) := con_of (N := N) tabOK mixed (callOK_list (l := phiL_f_56 N) (allc rfl (con_f_17 N) (allc rfl (con_f_25 N) (allc rfl (con_f_57 N) trivial)))) (inl0_ok _) ok_f_56 (by decide) fun b => run_f_56 N b
def an_f_14 : Nat → Option Ann := fun _ => none
noncomputable def fi_f_14 : FI := ⟨Tryz.f136.results.toList, bodyOf Tryz.f136.body, Tryz.f136.ntmps, an_f_14⟩
theorem ok_f_14 : FnOK Tryz.prog 136 fi_f_14 := ⟨⟨Tryz.f136, Tryz.func136, by kernel_rfl, rfl, rfl, by kernel_rfl⟩, by kernel_rfl⟩
def phiL_f_14 (N : Nat) : List (Nat × Summ) := []
def sg_f_14 : Summ := sigOf [.d tPart true, .bx tInt] true [.d (.bool) false]
theorem run_f_14 (N : Nat) (p : Part) (p1 : Int) : runST (ofDs [.bool, tInt]) (tabOf tabL) (tabS (phiL_f_14 N)) inl0 N fi_f_14 sg_f_14 [⟨tPart, p⟩, ⟨tInt, p1⟩] = F.f_14 N p p1 := by kernel_rfl
def sm_f_14 (N : Nat) : Summ := summOf [.d tPart true, .bx tInt] true [.d (.bool) false] [.bool, tInt] (F.f_14 N)
theorem con_f_14 (N : Nat) : Contract Tryz.prog 136 (sm_f_14 N) := con_of (N := N) tabOK mixed (callOK_list (l := phiL_f_14 N) trivial) (inl0_ok _) ok_f_14 (by decide) fun p p1 => run_f_14 N p p1
def an_f_0 : Nat → Option Ann
 | 0 => some ⟨⟨[(0, kp), (1, kp), (7, kp), (8, kp)], [(500001, [kp])], []⟩, [(0, ⟨[], [(500001, [kp])], []⟩)], ⟨[(4, kp)], [(500001, [kp])], []⟩⟩
 | _ => none
noncomputable def fi_f_0 : FI := ⟨Tryz.f135.results.toList, bodyOf Tryz.f135.body, Tryz.f135.ntmps, an_f_0⟩
theorem ok_f_0 : FnOK Tryz.prog 135 fi_f_0 := ⟨⟨Tryz.f135, Tryz.func135, by kernel_rfl, rfl, rfl, by kernel_rfl⟩, by kernel_rfl⟩
def phiL_f_0 (N : Nat) : List (Nat × Summ) := [(136, sm_f_14 N)]
def sg_f_0 : Summ := sigOf [.d (.slice tPart) false, .cl 136 [tInt]] true [.d tInt false]
def S_f_0_0 (s : List Part) (t7 : Int) (t8 : Int) (fpc0 : Int) : St := ⟨[(0, vv tPart.slice s), (1, AV.w (V1.one (C.fn 136 [500001]))), (7, vv tInt t7), (8, vv tInt t8)], [(500001, .box [.v tInt fpc0])]⟩
noncomputable def E_f_0 (N : Nat) : Env := envOf (tabOf tabL) (tabS (phiL_f_0 N)) inl0 N fi_f_0 [500001]
noncomputable def K_f_0 := (kFun (tabOf tabL) fi_f_0.res (kT (ofDs [tInt, tInt]) sg_f_0 [(500001, .bx tInt)]))
noncomputable def its_f_0_0 (N : Nat) (n : Nat) : St → Option (Int × Int) := fun S' => iter [500001] (annAt fi_f_0 0) (code (E_f_0 N) (lpIn fi_f_0.body 0 0) 0) n S' (contOf (E_f_0 N) fi_f_0.body 0 0 K_f_0)
noncomputable def it_f_0_0 (N : Nat) (s : List Part) (t7 : Int) (n : Nat) : Int → Int → Option (Int × Int) := fun t8 fpc0 => its_f_0_0 N n (S_f_0_0 s t7 t8 fpc0)
theorem fe_f_0_0 (N : Nat) : it_f_0_0 N = f_0_0 N := funext fun s => funext fun t7 => funext (lp_all (by kernel_rfl) fun n => by
 show _ = f_0_0r N s t7 (it_f_0_0 N s t7 n)
 kernel_rfl)
theorem run_f_0 (N : Nat) (s : List Part) (p1 : Int) : runST (ofDs [tInt, tInt]) (tabOf tabL) (tabS (phiL_f_0 N)) inl0 N fi_f_0 sg_f_0 [⟨.slice tPart, s⟩, ⟨tInt, p1⟩] = F.f_0 N s p1 := by
 show _ = F.f_0b N (F.f_0_0 N) s p1
 rw [← fe_f_0_0 N]
 kernel_rfl
def sm_f_0 (N : Nat) : Summ := summOf [.d (.slice tPart) false, .cl 136 [tInt]] true [.d tInt false] [tInt, tInt] (F.f_0 N)
theorem con_f_0 (N : Nat) : Contract Tryz.prog 135 (sm_f_0 N) := con_of (N := N) tabOK mixed (callOK_list (l := phiL_f_0 N) (allc rfl (con_f_14 N) trivial)) (inl0_ok _) ok_f_0 (by decide) fun s p1 => run_f_0 N s p1
def an_f_23 : Nat → Option Ann := fun _ => none
noncomputable def fi_f_23 : FI := ⟨Tryz.f57.results.toList, bodyOf Tryz.f57.body, Tryz.f57.ntmps, an_f_23⟩
theorem ok_f_23 : FnOK Tryz.prog 57 fi_f_23 := ⟨⟨Tryz.f57, Tryz.func57, by kernel_rfl, rfl, rfl, by kernel_rfl⟩, by kernel_rfl⟩
def phiL_f_23 (N : Nat) : List (Nat × Summ) := [(13700135, sm_f_0 N)]
def sg_f_23 : Summ := sigOf [.d tBook true, .d tInt false] false [.d tInt false]
theorem run_f_23 (N : Nat) (b : Book) (number : Int) : runST (ofDs [tInt]) (tabOf tabL) (tabS (phiL_f_23 N)) inl0 N fi_f_23 sg_f_23 [⟨tBook, b⟩, ⟨tInt, number⟩] = F.f_23 N b number := by kernel_rfl
def sm_f_23 (N : Nat) : Summ := summOf [.d tBook true, .d tInt false] false [.d tInt false] [tInt] (F.f_23 N)
theorem con_f_23 (N : Nat) : Contract Tryz.prog 57 (sm_f_23 N) := con_of (N := N) tabOK mixed (callOK_list (l := phiL_f_23 N) (allc rfl (con_f_0 N) trivial)) (inl0_ok _) ok_f_23 (by decide) fun b number => run_f_23 N b number
def an_f_44 : Nat → Option Ann := fun _ => none
noncomputable def fi_f_44 : FI := ⟨Tryz.f12.results.toList, bodyOf Tryz.f12.body, Tryz.f12.ntmps, an_f_44⟩
theorem ok_f_44 : FnOK Tryz.prog 12 fi_f_44 := ⟨⟨Tryz.f12, Tryz.func12, by kernel_rfl, rfl, rfl, by kernel_rfl⟩, by kernel_rfl⟩
def phiL_f_44 (N : Nat) : List (Nat × Summ) := [(22, sm_f_34 N), (56, sm_f_56 N), (57, sm_f_23 N)]
def sg_f_44 : Summ := sigOf [.d tBook true, .d tInt false] false [.own tBook true [(106, none), (34, (some [9])), (9, none), (94, (some [9, 82, 9, 9]))], .d tInt false]
theorem run_f_44 (N : Nat) (b : Book) (number : Int) : runST (ofDs [tBook, tInt]) (tabOf tabL) (tabS (phiL_f_44 N)) inl0 N fi_f_44 sg_f_44 [⟨tBook, b⟩, ⟨tInt, number⟩] = F.f_44 N b number := by kernel_rfl
def sm_f_44 (N : Nat) : Summ := summOf [.d tBook true, .d tInt false] false [.own tBook true [(106, none), (34, (some [9])), (9, none), (94, (some [9, 82, 9, 9]))], .d tInt false] [tBook, tInt] (F.f_44 N)
theorem con_f_44 (N : Nat) : Contract Tryz.prog 12 (sm_f_44 N) := con_of (N := N) tabOK mixed (callOK_list (l := phiL_f_44 N) (allc rfl (con_f_34 N) (allc rfl (con_f_56 N) (allc rfl (con_f_23 N) trivial)))) (inl0_ok _) ok_f_44 (by decide) fun b number => run_f_44 N b number
end
end Go.MC
set_option maxRecDepth 100000
namespace Go.MC
open Go.Proofs Go.MC.F
noncomputable section
def an_f_43 : Nat → Option Ann
 | 0 => some ⟨⟨[(2, kp), (3, kp), (4, kp), (8, kp), (10, kp), (11, kp), (12, kp), (40, kp), (41, kp), (42, kp)], [(4, [kp, kp, kp, kp, kp]), (8, [kp, kp, kp, kp, kp]), (10, [.own 1001000 106 tFoe, Dir.dow 1001001 34 [9] tSpot, .own 1001002 9 Ty.str, Dir.dow 1001003 94 [9, 82, 9, 9] tPart, kp]), (12, [kp, kp, kp, kp, kp, kp])], []⟩, [(0, ⟨[(2, kp), (3, kp), (4, kp), (8, kp), (10, kp), (11, kp), (12, kp)], [(4, [kp, kp, kp, kp, kp]), (8, [.own 1000800 106 tFoe, Dir.dow 1000801 34 [9] tSpot, .own 1000802 9 Ty.str, Dir.dow 1000803 94 [9, 82, 9, 9] tPart, kp]), (10, [.own 1001000 106 tFoe, Dir.dow 1001001 34 [9] tSpot, .own 1001002 9 Ty.str, Dir.dow 1001003 94 [9, 82, 9, 9] tPart, kp]), (12, [kp, kp, kp, kp, kp, kp])], []⟩)], ⟨[(8, kp), (9, kp)], [(8, [.own 1000800 106 tFoe, Dir.dow 1000801 34 [9] tSpot, .own 1000802 9 Ty.str, Dir.dow 1000803 94 [9, 82, 9, 9] tPart, kp])], []⟩⟩
 | 2 => some ⟨⟨[(2, kp), (3, kp), (8, kp), (10, kp), (12, kp), (73, kp), (74, kp), (75, kp)], [(8, [.own 1000800 106 tFoe, Dir.dow 1000801 34 [9] tSpot, .own 1000802 9 Ty.str, Dir.dow 1000803 94 [9, 82, 9, 9] tPart, kp]), (10, [.own 1001000 106 tFoe, Dir.dow 1001001 34 [9] tSpot, .own 1001002 9 Ty.str, Dir.dow 1001003 94 [9, 82, 9, 9] tPart, kp]), (12, [kp, kp, kp, kp, kp, kp])], []⟩, [(2, ⟨[(8, kp), (10, kp)], [(8, [.own 1000800 106 tFoe, Dir.dow 1000801 34 [9] tSpot, .own 1000802 9 Ty.str, Dir.dow 1000803 94 [9, 82, 9, 9] tPart, kp]), (10, [.own 1001000 106 tFoe, Dir.dow 1001001 34 [9] tSpot, .own 1001002 9 Ty.str, Dir.dow 1001003 94 [9, 82, 9, 9] tPart, kp])], []⟩)], ⟨[], [], []⟩⟩
 | _ => none
noncomputable def fi_f_43 : FI := ⟨Tryz.f14.results.toList, bodyOf Tryz.f14.body, Tryz.f14.ntmps, an_f_43⟩
theorem ok_f_43 : FnOK Tryz.prog 14 fi_f_43 := ⟨⟨Tryz.f14, Tryz.func14, by kernel_rfl, rfl, rfl, by kernel_rfl⟩, by kernel_rfl⟩
def phiL_f_43 (N : Nat) : List (Nat × Summ) := [(22, sm_f_34 N), (56, sm_f_56 N), (57, sm_f_23 N), (60, sm_f_31 N)]
def sg_f_43 : Summ := sigOf [.d tBook true, .d tInt false, .d tInt false, .d (.bool) false] false [.own tBook true [(106, none), (34, (some [9])), (9, none), (94, (some [9, 82, 9, 9]))], .d tInt false]
def S_f_43_2 (moved : Int) (done : Bool) (r_1 : Book) (t8c4 : Int) (w12c0 : Int) (w12c1 : Int) (w12c2 : List Txt) (w12c3 : List Use) (w12c4 : List Txt) (w12c5 : List Txt) (t74 : Int) (t8c0a : List Foe) (t8c1a : List Spot) (t8c2a : List Txt) (t8c3a : List Part) (out10c3a_1 : List Part) (t75 : Int) (out10c1a_1 : List Spot) : St := ⟨[(2, vv tInt moved), (3, vv Ty.bool done), (8, vb 8), (10, vb 10), (12, vb 12), (73, vv tUse.slice w12c3), (74, vv tInt t74), (75, vv tInt t75)], [(8, .box [.arr 1000800, .arr 1000801, .arr 1000802, .arr 1000803, .v tInt t8c4]), (10, .box [.arr 1001000, .arr 1001001, .arr 1001002, .arr 1001003, .v tInt r_1.2.2.2.2]), (12, .box [.v tInt w12c0, .v tInt w12c1, .v tTxts w12c2, .v tUse.slice w12c3, .v tTxts w12c4, .v tTxts w12c5]), (1000800, .arr 106 tFoe t8c0a), (1000801, .arr 34 tSpot t8c1a (Dp.yes [9])), (1000802, .arr 9 Ty.str t8c2a), (1000803, .arr 94 tPart t8c3a (Dp.yes [9, 82, 9, 9])), (1001000, .arr 106 tFoe r_1.1), (1001001, .arr 34 tSpot out10c1a_1 (Dp.yes [9])), (1001002, .arr 9 Ty.str r_1.2.2.1), (1001003, .arr 94 tPart out10c3a_1 (Dp.yes [9, 82, 9, 9]))]⟩
def S_f_43_0 (b : Book) (moved : Int) (done : Bool) (r_1 : Book) (r_2 : Int) (t40 : List Use) (t41 : Int) (t8c4 : Int) (w12c0 : Int) (w12c1 : Int) (w12c2 : List Txt) (w12c3 : List Use) (w12c4 : List Txt) (w12c5 : List Txt) (t42 : Int) : St := ⟨[(2, vv tInt moved), (3, vv Ty.bool done), (4, vb 4), (8, vb 8), (10, vb 10), (11, vv tInt r_2), (12, vb 12), (40, vv tUse.slice t40), (41, vv tInt t41), (42, vv tInt t42)], [(4, .box [.v tFoe.slice b.1, .v tSpot.slice b.2.1, .v tTxts b.2.2.1, .v tPart.slice b.2.2.2.1, .v tInt b.2.2.2.2]), (8, .box [.emp, .emp, .emp, .emp, .v tInt t8c4]), (10, .box [.arr 1001000, .arr 1001001, .arr 1001002, .arr 1001003, .v tInt r_1.2.2.2.2]), (12, .box [.v tInt w12c0, .v tInt w12c1, .v tTxts w12c2, .v tUse.slice w12c3, .v tTxts w12c4, .v tTxts w12c5]), (1001000, .arr 106 tFoe r_1.1), (1001001, .arr 34 tSpot r_1.2.1 (Dp.yes [9])), (1001002, .arr 9 Ty.str r_1.2.2.1), (1001003, .arr 94 tPart r_1.2.2.2.1 (Dp.yes [9, 82, 9, 9]))]⟩
noncomputable def E_f_43 (N : Nat) : Env := envOf (tabOf tabL) (tabS (phiL_f_43 N)) inlS N fi_f_43 []
noncomputable def K_f_43 := (kFun (tabOf tabL) fi_f_43.res (kT (ofDs [tBook, tInt]) sg_f_43 []))
noncomputable def its_f_43_2 (N : Nat) (n : Nat) : St → Option (Book × Int) := fun S' => iter [] (annAt fi_f_43 2) (code (E_f_43 N) (lpIn fi_f_43.body 0 2) 2) n S' (contOf (E_f_43 N) fi_f_43.body 0 2 K_f_43)
noncomputable def it_f_43_2 (N : Nat) (moved : Int) (done : Bool) (r_1 : Book) (t8c4 : Int) (w12c0 : Int) (w12c1 : Int) (w12c2 : List Txt) (w12c3 : List Use) (w12c4 : List Txt) (w12c5 : List Txt) (t74 : Int) (t8c0a : List Foe) (t8c1a : List Spot) (t8c2a : List Txt) (t8c3a : List Part) (out10c3a_1 : List Part) (n : Nat) : Int → (List Spot) → Option (Book × Int) := fun t75 out10c1a_1 => its_f_43_2 N n (S_f_43_2 moved done r_1 t8c4 w12c0 w12c1 w12c2 w12c3 w12c4 w12c5 t74 t8c0a t8c1a t8c2a t8c3a out10c3a_1 t75 out10c1a_1)
theorem fe_f_43_2 (N : Nat) : it_f_43_2 N = f_43_2 N := funext fun moved => funext fun done => funext fun r_1 => funext fun t8c4 => funext fun w12c0 => funext fun w12c1 => funext fun w12c2 => funext fun w12c3 => funext fun w12c4 => funext fun w12c5 => funext fun t74 => funext fun t8c0a => funext fun t8c1a => funext fun t8c2a => funext fun t8c3a => funext fun out10c3a_1 => funext (lp_all (by kernel_rfl) fun n => by
 show _ = f_43_2r N moved done r_1 t8c4 w12c0 w12c1 w12c2 w12c3 w12c4 w12c5 t74 t8c0a t8c1a t8c2a t8c3a out10c3a_1 (it_f_43_2 N moved done r_1 t8c4 w12c0 w12c1 w12c2 w12c3 w12c4 w12c5 t74 t8c0a t8c1a t8c2a t8c3a out10c3a_1 n)
 kernel_rfl)
noncomputable def its_f_43_0 (N : Nat) (n : Nat) : St → Option (Book × Int) := fun S' => iter [] (annAt fi_f_43 0) (code (E_f_43 N) (lpIn fi_f_43.body 0 0) 0) n S' (contOf (E_f_43 N) fi_f_43.body 0 0 K_f_43)
noncomputable def it_f_43_0 (N : Nat) (b : Book) (moved : Int) (done : Bool) (r_1 : Book) (r_2 : Int) (t40 : List Use) (t41 : Int) (t8c4 : Int) (w12c0 : Int) (w12c1 : Int) (w12c2 : List Txt) (w12c3 : List Use) (w12c4 : List Txt) (w12c5 : List Txt) (n : Nat) : Int → Option (Book × Int) := fun t42 => its_f_43_0 N n (S_f_43_0 b moved done r_1 r_2 t40 t41 t8c4 w12c0 w12c1 w12c2 w12c3 w12c4 w12c5 t42)
theorem fe_f_43_0 (N : Nat) : it_f_43_0 N = f_43_0 N := funext fun b => funext fun moved => funext fun done => funext fun r_1 => funext fun r_2 => funext fun t40 => funext fun t41 => funext fun t8c4 => funext fun w12c0 => funext fun w12c1 => funext fun w12c2 => funext fun w12c3 => funext fun w12c4 => funext fun w12c5 => funext (lp_all (by kernel_rfl) fun n => by
 show _ = f_43_0r N (f_43_2 N) b moved done r_1 r_2 t40 t41 t8c4 w12c0 w12c1 w12c2 w12c3 w12c4 w12c5 (it_f_43_0 N b moved done r_1 r_2 t40 t41 t8c4 w12c0 w12c1 w12c2 w12c3 w12c4 w12c5 n)
 rw [show f_43_2 N = it_f_43_2 N from (fe_f_43_2 N).symm]
 kernel_rfl)
theorem run_f_43 (N : Nat) (b : Book) (number : Int) (moved : Int) (done : Bool) : runST (ofDs [tBook, tInt]) (tabOf tabL) (tabS (phiL_f_43 N)) inlS N fi_f_43 sg_f_43 [⟨tBook, b⟩, ⟨tInt, number⟩, ⟨tInt, moved⟩, ⟨.bool, done⟩] = F.f_43 N b number moved done := by
 show _ = F.f_43b N (F.f_43_0 N) b number moved done
 rw [← fe_f_43_0 N]
 kernel_rfl
def sm_f_43 (N : Nat) : Summ := summOf [.d tBook true, .d tInt false, .d tInt false, .d (.bool) false] false [.own tBook true [(106, none), (34, (some [9])), (9, none), (94, (some [9, 82, 9, 9]))], .d tInt false] [tBook, tInt] (F.f_43 N)
theorem con_f_43 (N : Nat) : Contract Tryz.prog 14 (sm_f_43 N) := con_of (N := N) tabOK mixed (callOK_list (l := phiL_f_43 N) (allc rfl (con_f_34 N) (allc rfl (con_f_56 N) (allc rfl (con_f_23 N) (allc rfl (con_f_31 N) trivial))))) inlS_ok ok_f_43 (by decide) fun b number moved done => run_f_43 N b number moved done
def an_f_103 : Nat → Option Ann
 | 0 => some ⟨⟨[(1, kp), (2, kp), (4, kp), (5, kp)], [(2, [kp, kp, kp, kp, kp]), (4, [kp, kp, kp, kp, kp, kp])], []⟩, [(0, ⟨[(4, kp)], [(4, [kp, kp, Dir.frz Ty.str, Dir.frz tUse, Dir.frz Ty.str, Dir.frz Ty.str])], []⟩)], ⟨[(4, kp)], [(4, [kp, kp, Dir.frz Ty.str, Dir.frz tUse, Dir.frz Ty.str, Dir.frz Ty.str])], []⟩⟩
 | _ => none
noncomputable def fi_f_103 : FI := ⟨Tryz.f18.results.toList, bodyOf Tryz.f18.body, Tryz.f18.ntmps, an_f_103⟩
theorem ok_f_103 : FnOK Tryz.prog 18 fi_f_103 := ⟨⟨Tryz.f18, Tryz.func18, by kernel_rfl, rfl, rfl, by kernel_rfl⟩, by kernel_rfl⟩
def phiL_f_103 (N : Nat) : List (Nat × Summ) := []
def sg_f_103 : Summ := sigOf [.d tBook true, .d tInt false] true [.d tWant true]
def S_f_103_0 (b : Book) (number : Int) (t4c0 : Int) (t4c1 : Int) (i5 : Int) : St := ⟨[(1, vv tInt number), (2, vb 2), (4, vb 4), (5, vv tInt i5)], [(2, .box [.v tFoe.slice b.1, .v tSpot.slice b.2.1, .v tTxts b.2.2.1, .v tPart.slice b.2.2.2.1, .v tInt b.2.2.2.2]), (4, .box [.v tInt t4c0, .v tInt t4c1, .emp, .emp, .emp, .emp])]⟩
noncomputable def E_f_103 (N : Nat) : Env := envOf (tabOf tabL) (tabS (phiL_f_103 N)) inl0 N fi_f_103 []
noncomputable def K_f_103 := (kFun (tabOf tabL) fi_f_103.res (kT (ofDs [tWant]) sg_f_103 []))
noncomputable def its_f_103_0 (N : Nat) (n : Nat) : St → Option Want := fun S' => iter [] (annAt fi_f_103 0) (code (E_f_103 N) (lpIn fi_f_103.body 0 0) 0) n S' (contOf (E_f_103 N) fi_f_103.body 0 0 K_f_103)
noncomputable def it_f_103_0 (N : Nat) (b : Book) (number : Int) (t4c0 : Int) (t4c1 : Int) (n : Nat) : Int → Option Want := fun i5 => its_f_103_0 N n (S_f_103_0 b number t4c0 t4c1 i5)
theorem fe_f_103_0 (N : Nat) : it_f_103_0 N = f_103_0 N := funext fun b => funext fun number => funext fun t4c0 => funext fun t4c1 => funext (lp_all (by kernel_rfl) fun n => by
 show _ = f_103_0r N b number t4c0 t4c1 (it_f_103_0 N b number t4c0 t4c1 n)
 kernel_rfl)
theorem run_f_103 (N : Nat) (b : Book) (number : Int) : runST (ofDs [tWant]) (tabOf tabL) (tabS (phiL_f_103 N)) inl0 N fi_f_103 sg_f_103 [⟨tBook, b⟩, ⟨tInt, number⟩] = F.f_103 N b number := by
 show _ = F.f_103b N (F.f_103_0 N) b number
 rw [← fe_f_103_0 N]
 kernel_rfl
def sm_f_103 (N : Nat) : Summ := summOf [.d tBook true, .d tInt false] true [.d tWant true] [tWant] (F.f_103 N)
theorem con_f_103 (N : Nat) : Contract Tryz.prog 18 (sm_f_103 N) := con_of (N := N) tabOK mixed (callOK_list (l := phiL_f_103 N) trivial) (inl0_ok _) ok_f_103 (by decide) fun b number => run_f_103 N b number
def an_f_102 : Nat → Option Ann
 | 0 => some ⟨⟨[(2, kp), (4, kp), (7, .own 700007 36 (Ty.str.pair tInt)), (8, kp)], [(4, [kp, kp, kp, kp, kp, kp])], []⟩, [(0, ⟨[(7, .own 700007 36 (Ty.str.pair tInt))], [], []⟩)], ⟨[], [], []⟩⟩
 | 2 => some ⟨⟨[(2, kp), (4, kp), (7, .own 700007 36 (Ty.str.pair tInt)), (8, kp), (9, kp)], [(4, [kp, kp, kp, kp, kp, kp])], []⟩, [(2, ⟨[(2, kp), (4, kp), (7, .own 700007 36 (Ty.str.pair tInt)), (8, kp)], [(4, [kp, kp, kp, kp, kp, kp])], []⟩)], ⟨[], [], []⟩⟩
 | _ => none
noncomputable def fi_f_102 : FI := ⟨Tryz.f17.results.toList, bodyOf Tryz.f17.body, Tryz.f17.ntmps, an_f_102⟩
theorem ok_f_102 : FnOK Tryz.prog 17 fi_f_102 := ⟨⟨Tryz.f17, Tryz.func17, by kernel_rfl, rfl, rfl, by kernel_rfl⟩, by kernel_rfl⟩
def phiL_f_102 (N : Nat) : List (Nat × Summ) := []
def sg_f_102 : Summ := sigOf [.d (.slice (.pair (.str) tInt)) false, .d tWant true, .d tInt false] false [.own (.slice (.pair (.str) tInt)) false [(36, none)]]
def S_f_102_2 (w : Want) (n0 : Int) (i8 : Int) (k9 : Int) (out7a_1 : List (Txt × Int)) : St := ⟨[(2, vv tInt n0), (4, vb 4), (7, va 700007), (8, vv tInt i8), (9, vv tInt k9)], [(4, .box [.v tInt w.1, .v tInt w.2.1, .v tTxts w.2.2.1, .v tUse.slice w.2.2.2.1, .v tTxts w.2.2.2.2.1, .v tTxts w.2.2.2.2.2]), (700007, .arr 36 (Ty.str.pair tInt) out7a_1)]⟩
def S_f_102_0 (w : Want) (n0 : Int) (i8 : Int) (out7a : List (Txt × Int)) : St := ⟨[(2, vv tInt n0), (4, vb 4), (7, va 700007), (8, vv tInt i8)], [(4, .box [.v tInt w.1, .v tInt w.2.1, .v tTxts w.2.2.1, .v tUse.slice w.2.2.2.1, .v tTxts w.2.2.2.2.1, .v tTxts w.2.2.2.2.2]), (700007, .arr 36 (Ty.str.pair tInt) out7a)]⟩
noncomputable def E_f_102 (N : Nat) : Env := envOf (tabOf tabL) (tabS (phiL_f_102 N)) inl0 N fi_f_102 []
noncomputable def K_f_102 := (kFun (tabOf tabL) fi_f_102.res (kT (ofDs [.slice (.pair (.str) tInt)]) sg_f_102 []))
noncomputable def its_f_102_2 (N : Nat) (nxS0 : St → Option (List (Txt × Int))) (n : Nat) : St → Option (List (Txt × Int)) := fun S' => iter [] (annAt fi_f_102 2) (code (E_f_102 N) (lpIn (lpIn fi_f_102.body 0 0) 0 2) 2) n S' (contOf (E_f_102 N) (lpIn fi_f_102.body 0 0) 0 2 (kLoop [] (annAt fi_f_102 0) nxS0 (contOf (E_f_102 N) fi_f_102.body 0 0 K_f_102)))
noncomputable def it_f_102_2 (N : Nat) (nxS0 : St → Option (List (Txt × Int))) (w : Want) (n0 : Int) (i8 : Int) (n : Nat) : Int → (List (Txt × Int)) → Option (List (Txt × Int)) := fun k9 out7a_1 => its_f_102_2 N nxS0 n (S_f_102_2 w n0 i8 k9 out7a_1)
theorem fe_f_102_2 (N : Nat) (nxS0 : St → Option (List (Txt × Int))) (w : Want) (n0 : Int) : it_f_102_2 N nxS0 w n0 = f_102_2 N (fun i8 out7a => nxS0 (S_f_102_0 w n0 i8 out7a)) w n0 := funext fun i8 => funext (lp_all (by kernel_rfl) fun n => by
 show _ = f_102_2r N (fun i8 out7a => nxS0 (S_f_102_0 w n0 i8 out7a)) w n0 i8 (it_f_102_2 N nxS0 w n0 i8 n)
 kernel_rfl)
noncomputable def its_f_102_0 (N : Nat) (n : Nat) : St → Option (List (Txt × Int)) := fun S' => iter [] (annAt fi_f_102 0) (code (E_f_102 N) (lpIn fi_f_102.body 0 0) 0) n S' (contOf (E_f_102 N) fi_f_102.body 0 0 K_f_102)
noncomputable def it_f_102_0 (N : Nat) (w : Want) (n0 : Int) (n : Nat) : Int → (List (Txt × Int)) → Option (List (Txt × Int)) := fun i8 out7a => its_f_102_0 N n (S_f_102_0 w n0 i8 out7a)
theorem fe_f_102_0 (N : Nat) : it_f_102_0 N = f_102_0 N := funext fun w => funext fun n0 => funext (lp_all (by kernel_rfl) fun n => by
 show _ = f_102_0r N (f_102_2 N (it_f_102_0 N w n0 n) w n0) w n0 (it_f_102_0 N w n0 n)
 rw [show f_102_2 N (it_f_102_0 N w n0 n) w n0 = it_f_102_2 N (its_f_102_0 N n) w n0 from (fe_f_102_2 N (its_f_102_0 N n) w n0).symm]
 kernel_rfl)
theorem run_f_102 (N : Nat) (list : List (Txt × (Int))) (w : Want) (n0 : Int) : runST (ofDs [.slice (.pair (.str) tInt)]) (tabOf tabL) (tabS (phiL_f_102 N)) inl0 N fi_f_102 sg_f_102 [⟨.slice (.pair (.str) tInt), list⟩, ⟨tWant, w⟩, ⟨tInt, n0⟩] = F.f_102 N list w n0 := by
 show _ = F.f_102b N (F.f_102_0 N) list w n0
 rw [← fe_f_102_0 N]
 kernel_rfl
def sm_f_102 (N : Nat) : Summ := summOf [.d (.slice (.pair (.str) tInt)) false, .d tWant true, .d tInt false] false [.own (.slice (.pair (.str) tInt)) false [(36, none)]] [.slice (.pair (.str) tInt)] (F.f_102 N)
theorem con_f_102 (N : Nat) : Contract Tryz.prog 17 (sm_f_102 N) := con_of (N := N) tabOK mixed (callOK_list (l := phiL_f_102 N) trivial) (inl0_ok _) ok_f_102 (by decide) fun list w n0 => run_f_102 N list w n0
def an_f_104 : Nat → Option Ann
 | 0 => some ⟨⟨[(0, kp), (1, kp), (5, kp)], [], []⟩, [(0, ⟨[], [], []⟩)], ⟨[(4, kp)], [], []⟩⟩
 | _ => none
noncomputable def fi_f_104 : FI := ⟨Tryz.f64.results.toList, bodyOf Tryz.f64.body, Tryz.f64.ntmps, an_f_104⟩
theorem ok_f_104 : FnOK Tryz.prog 64 fi_f_104 := ⟨⟨Tryz.f64, Tryz.func64, by kernel_rfl, rfl, rfl, by kernel_rfl⟩, by kernel_rfl⟩
def phiL_f_104 (N : Nat) : List (Nat × Summ) := []
def sg_f_104 : Summ := sigOf [.d (.slice (.pair (.str) tInt)) false, .d (.str) false] false [.d tInt false]
def S_f_104_0 (list : List (Txt × Int)) (name : Txt) (i5 : Int) : St := ⟨[(0, AV.w (V1.one (.v (Ty.str.pair tInt).slice list))), (1, vv Ty.str name), (5, vv tInt i5)], []⟩
noncomputable def E_f_104 (N : Nat) : Env := envOf (tabOf tabL) (tabS (phiL_f_104 N)) inl0 N fi_f_104 []
noncomputable def K_f_104 := (kFun (tabOf tabL) fi_f_104.res (kT (ofDs [tInt]) sg_f_104 []))
noncomputable def its_f_104_0 (N : Nat) (n : Nat) : St → Option Int := fun S' => iter [] (annAt fi_f_104 0) (code (E_f_104 N) (lpIn fi_f_104.body 0 0) 0) n S' (contOf (E_f_104 N) fi_f_104.body 0 0 K_f_104)
noncomputable def it_f_104_0 (N : Nat) (list : List (Txt × Int)) (name : Txt) (n : Nat) : Int → Option Int := fun i5 => its_f_104_0 N n (S_f_104_0 list name i5)
theorem fe_f_104_0 (N : Nat) : it_f_104_0 N = f_104_0 N := funext fun list => funext fun name => funext (lp_all (by kernel_rfl) fun n => by
 show _ = f_104_0r N list name (it_f_104_0 N list name n)
 kernel_rfl)
theorem run_f_104 (N : Nat) (list : List (Txt × (Int))) (name : Txt) : runST (ofDs [tInt]) (tabOf tabL) (tabS (phiL_f_104 N)) inl0 N fi_f_104 sg_f_104 [⟨.slice (.pair (.str) tInt), list⟩, ⟨.str, name⟩] = F.f_104 N list name := by
 show _ = F.f_104b N (F.f_104_0 N) list name
 rw [← fe_f_104_0 N]
 kernel_rfl
def sm_f_104 (N : Nat) : Summ := summOf [.d (.slice (.pair (.str) tInt)) false, .d (.str) false] false [.d tInt false] [tInt] (F.f_104 N)
theorem con_f_104 (N : Nat) : Contract Tryz.prog 64 (sm_f_104 N) := con_of (N := N) tabOK mixed (callOK_list (l := phiL_f_104 N) trivial) (inl0_ok _) ok_f_104 (by decide) fun list name => run_f_104 N list name
def an_f_68 : Nat → Option Ann
 | 0 => some ⟨⟨[(1, kp), (2, kp), (5, kp)], [(2, [kp, kp, kp, kp, kp])], []⟩, [(0, ⟨[], [], []⟩)], ⟨[(4, kp)], [], []⟩⟩
 | _ => none
noncomputable def fi_f_68 : FI := ⟨Tryz.f16.results.toList, bodyOf Tryz.f16.body, Tryz.f16.ntmps, an_f_68⟩
theorem ok_f_68 : FnOK Tryz.prog 16 fi_f_68 := ⟨⟨Tryz.f16, Tryz.func16, by kernel_rfl, rfl, rfl, by kernel_rfl⟩, by kernel_rfl⟩
def phiL_f_68 (N : Nat) : List (Nat × Summ) := [(64, sm_f_104 N)]
def sg_f_68 : Summ := sigOf [.d tBook true, .d (.slice (.pair (.str) tInt)) false] false [.d (.bool) false]
def S_f_68_0 (b : Book) (list : List (Txt × Int)) (i5 : Int) : St := ⟨[(1, AV.w (V1.one (.v (Ty.str.pair tInt).slice list))), (2, vb 2), (5, vv tInt i5)], [(2, .box [.v tFoe.slice b.1, .v tSpot.slice b.2.1, .v tTxts b.2.2.1, .v tPart.slice b.2.2.2.1, .v tInt b.2.2.2.2])]⟩
noncomputable def E_f_68 (N : Nat) : Env := envOf (tabOf tabL) (tabS (phiL_f_68 N)) inl0 N fi_f_68 []
noncomputable def K_f_68 := (kFun (tabOf tabL) fi_f_68.res (kT (ofDs [.bool]) sg_f_68 []))
noncomputable def its_f_68_0 (N : Nat) (n : Nat) : St → Option Bool := fun S' => iter [] (annAt fi_f_68 0) (code (E_f_68 N) (lpIn fi_f_68.body 0 0) 0) n S' (contOf (E_f_68 N) fi_f_68.body 0 0 K_f_68)
noncomputable def it_f_68_0 (N : Nat) (b : Book) (list : List (Txt × Int)) (n : Nat) : Int → Option Bool := fun i5 => its_f_68_0 N n (S_f_68_0 b list i5)
theorem fe_f_68_0 (N : Nat) : it_f_68_0 N = f_68_0 N := funext fun b => funext fun list => funext (lp_all (by kernel_rfl) fun n => by
 show _ = f_68_0r N b list (it_f_68_0 N b list n)
 kernel_rfl)
theorem run_f_68 (N : Nat) (b : Book) (list : List (Txt × (Int))) : runST (ofDs [.bool]) (tabOf tabL) (tabS (phiL_f_68 N)) inl0 N fi_f_68 sg_f_68 [⟨tBook, b⟩, ⟨.slice (.pair (.str) tInt), list⟩] = F.f_68 N b list := by
 show _ = F.f_68b N (F.f_68_0 N) b list
 rw [← fe_f_68_0 N]
 kernel_rfl
def sm_f_68 (N : Nat) : Summ := summOf [.d tBook true, .d (.slice (.pair (.str) tInt)) false] false [.d (.bool) false] [.bool] (F.f_68 N)
theorem con_f_68 (N : Nat) : Contract Tryz.prog 16 (sm_f_68 N) := con_of (N := N) tabOK mixed (callOK_list (l := phiL_f_68 N) (allc rfl (con_f_104 N) trivial)) (inl0_ok _) ok_f_68 (by decide) fun b list => run_f_68 N b list
def an_f_26 : Nat → Option Ann
 | 0 => some ⟨⟨[(0, kp), (1, kp), (12, kp), (13, kp)], [], []⟩, [(0, ⟨[], [], []⟩)], ⟨[(4, kp)], [], []⟩⟩
 | _ => none
noncomputable def fi_f_26 : FI := ⟨Tryz.f166.results.toList, bodyOf Tryz.f166.body, Tryz.f166.ntmps, an_f_26⟩
theorem ok_f_26 : FnOK Tryz.prog 166 fi_f_26 := ⟨⟨Tryz.f166, Tryz.func166, by kernel_rfl, rfl, rfl, by kernel_rfl⟩, by kernel_rfl⟩
def phiL_f_26 (N : Nat) : List (Nat × Summ) := []
def sg_f_26 : Summ := sigOf [.d tTxts false, .d tTxts false] false [.d (.bool) false]
def S_f_26_0 (s1 : List Txt) (s2 : List Txt) (t12 : Int) (t13 : Int) : St := ⟨[(0, vv tTxts s1), (1, vv tTxts s2), (12, vv tInt t12), (13, vv tInt t13)], []⟩
noncomputable def E_f_26 (N : Nat) : Env := envOf (tabOf tabL) (tabS (phiL_f_26 N)) inl0 N fi_f_26 []
noncomputable def K_f_26 := (kFun (tabOf tabL) fi_f_26.res (kT (ofDs [.bool]) sg_f_26 []))
noncomputable def its_f_26_0 (N : Nat) (n : Nat) : St → Option Bool := fun S' => iter [] (annAt fi_f_26 0) (code (E_f_26 N) (lpIn fi_f_26.body 0 0) 0) n S' (contOf (E_f_26 N) fi_f_26.body 0 0 K_f_26)
noncomputable def it_f_26_0 (N : Nat) (s1 : List Txt) (s2 : List Txt) (t12 : Int) (n : Nat) : Int → Option Bool := fun t13 => its_f_26_0 N n (S_f_26_0 s1 s2 t12 t13)
theorem fe_f_26_0 (N : Nat) : it_f_26_0 N = f_26_0 N := funext fun s1 => funext fun s2 => funext fun t12 => funext (lp_all (by kernel_rfl) fun n => by
 show _ = f_26_0r N s1 s2 t12 (it_f_26_0 N s1 s2 t12 n)
 kernel_rfl)
theorem run_f_26 (N : Nat) (s1 : List Txt) (s2 : List Txt) : runST (ofDs [.bool]) (tabOf tabL) (tabS (phiL_f_26 N)) inl0 N fi_f_26 sg_f_26 [⟨tTxts, s1⟩, ⟨tTxts, s2⟩] = F.f_26 N s1 s2 := by
 show _ = F.f_26b N (F.f_26_0 N) s1 s2
 rw [← fe_f_26_0 N]
 kernel_rfl
def sm_f_26 (N : Nat) : Summ := summOf [.d tTxts false, .d tTxts false] false [.d (.bool) false] [.bool] (F.f_26 N)
theorem con_f_26 (N : Nat) : Contract Tryz.prog 166 (sm_f_26 N) := con_of (N := N) tabOK mixed (callOK_list (l := phiL_f_26 N) trivial) (inl0_ok _) ok_f_26 (by decide) fun s1 s2 => run_f_26 N s1 s2
def an_f_19 : Nat → Option Ann
 | 0 => some ⟨⟨[(0, kp), (1, kp), (12, kp), (13, kp)], [], []⟩, [(0, ⟨[], [], []⟩)], ⟨[(4, kp)], [], []⟩⟩
 | _ => none
noncomputable def fi_f_19 : FI := ⟨Tryz.f167.results.toList, bodyOf Tryz.f167.body, Tryz.f167.ntmps, an_f_19⟩
theorem ok_f_19 : FnOK Tryz.prog 167 fi_f_19 := ⟨⟨Tryz.f167, Tryz.func167, by kernel_rfl, rfl, rfl, by kernel_rfl⟩, by kernel_rfl⟩
def phiL_f_19 (N : Nat) : List (Nat × Summ) := []
def sg_f_19 : Summ := sigOf [.d (.slice tUse) false, .d (.slice tUse) false] false [.d (.bool) false]
def S_f_19_0 (s1 : List Use) (s2 : List Use) (t12 : Int) (t13 : Int) : St := ⟨[(0, vv tUse.slice s1), (1, vv tUse.slice s2), (12, vv tInt t12), (13, vv tInt t13)], []⟩
noncomputable def E_f_19 (N : Nat) : Env := envOf (tabOf tabL) (tabS (phiL_f_19 N)) inl0 N fi_f_19 []
noncomputable def K_f_19 := (kFun (tabOf tabL) fi_f_19.res (kT (ofDs [.bool]) sg_f_19 []))
noncomputable def its_f_19_0 (N : Nat) (n : Nat) : St → Option Bool := fun S' => iter [] (annAt fi_f_19 0) (code (E_f_19 N) (lpIn fi_f_19.body 0 0) 0) n S' (contOf (E_f_19 N) fi_f_19.body 0 0 K_f_19)
noncomputable def it_f_19_0 (N : Nat) (s1 : List Use) (s2 : List Use) (t12 : Int) (n : Nat) : Int → Option Bool := fun t13 => its_f_19_0 N n (S_f_19_0 s1 s2 t12 t13)
theorem fe_f_19_0 (N : Nat) : it_f_19_0 N = f_19_0 N := funext fun s1 => funext fun s2 => funext fun t12 => funext (lp_all (by kernel_rfl) fun n => by
 show _ = f_19_0r N s1 s2 t12 (it_f_19_0 N s1 s2 t12 n)
 kernel_rfl)
theorem run_f_19 (N : Nat) (s1 : List Use) (s2 : List Use) : runST (ofDs [.bool]) (tabOf tabL) (tabS (phiL_f_19 N)) inl0 N fi_f_19 sg_f_19 [⟨.slice tUse, s1⟩, ⟨.slice tUse, s2⟩] = F.f_19 N s1 s2 := by
 show _ = F.f_19b N (F.f_19_0 N) s1 s2
 rw [← fe_f_19_0 N]
 kernel_rfl
def sm_f_19 (N : Nat) : Summ := summOf [.d (.slice tUse) false, .d (.slice tUse) false] false [.d (.bool) false] [.bool] (F.f_19 N)
theorem con_f_19 (N : Nat) : Contract Tryz.prog 167 (sm_f_19 N) := con_of (N := N) tabOK mixed (callOK_list (l := phiL_f_19 N) trivial) (inl0_ok _) ok_f_19 (by decide) fun s1 s2 => run_f_19 N s1 s2
def an_f_115 : Nat → Option Ann := fun _ => none
noncomputable def fi_f_115 : FI := ⟨Tryz.f114.results.toList, bodyOf Tryz.f114.body, Tryz.f114.ntmps, an_f_115⟩
theorem ok_f_115 : FnOK Tryz.prog 114 fi_f_115 := ⟨⟨Tryz.f114, Tryz.func114, by kernel_rfl, rfl, rfl, by kernel_rfl⟩, by kernel_rfl⟩
def phiL_f_115 (N : Nat) : List (Nat × Summ) := [(166, sm_f_26 N), (167, sm_f_19 N)]
def sg_f_115 : Summ := sigOf [.d tWant true, .d tWant true] false [.d (.bool) false]
theorem run_f_115 (N : Nat) (a : Want) (b : Want) : runST (ofDs [.bool]) (tabOf tabL) (tabS (phiL_f_115 N)) inl0 N fi_f_115 sg_f_115 [⟨tWant, a⟩, ⟨tWant, b⟩] = F.f_115 N a b := by kernel_rfl
def sm_f_115 (N : Nat) : Summ := summOf [.d tWant true, .d tWant true] false [.d (.bool) false] [.bool] (F.f_115 N)
theorem con_f_115 (N : Nat) : Contract Tryz.prog 114 (sm_f_115 N) := con_of (N := N) tabOK mixed (callOK_list (l := phiL_f_115 N) (allc rfl (con_f_26 N) (allc rfl (con_f_19 N) trivial))) (inl0_ok _) ok_f_115 (by decide) fun a b => run_f_115 N a b
def an_f_32 : Nat → Option Ann := fun _ => none
noncomputable def fi_f_32 : FI := ⟨Tryz.f116.results.toList, bodyOf Tryz.f116.body, Tryz.f116.ntmps, an_f_32⟩
theorem ok_f_32 : FnOK Tryz.prog 116 fi_f_32 := ⟨⟨Tryz.f116, Tryz.func116, by kernel_rfl, rfl, rfl, by kernel_rfl⟩, by kernel_rfl⟩
def phiL_f_32 (N : Nat) : List (Nat × Summ) := [(76, sm_f_99 N)]
def sg_f_32 : Summ := sigOf [.d tPart true, .bx tWant] true [.d (.bool) false]
theorem run_f_32 (N : Nat) (p : Part) (p1 : Want) : runST (ofDs [.bool, tWant]) (tabOf tabL) (tabS (phiL_f_32 N)) inl0 N fi_f_32 sg_f_32 [⟨tPart, p⟩, ⟨tWant, p1⟩] = F.f_32 N p p1 := by kernel_rfl
def sm_f_32 (N : Nat) : Summ := summOf [.d tPart true, .bx tWant] true [.d (.bool) false] [.bool, tWant] (F.f_32 N)
theorem con_f_32 (N : Nat) : Contract Tryz.prog 116 (sm_f_32 N) := con_of (N := N) tabOK mixed (callOK_list (l := phiL_f_32 N) (allc rfl (con_f_99 N) trivial)) (inl0_ok _) ok_f_32 (by decide) fun p p1 => run_f_32 N p p1
def an_f_5 : Nat → Option Ann
 | 0 => some ⟨⟨[(0, kp), (1, kp), (7, kp), (8, kp)], [(500001, [kp, kp, kp, kp, kp, kp])], []⟩, [(0, ⟨[], [(500001, [kp, kp, kp, kp, kp, kp])], []⟩)], ⟨[(4, kp)], [(500001, [kp, kp, kp, kp, kp, kp])], []⟩⟩
 | _ => none
noncomputable def fi_f_5 : FI := ⟨Tryz.f135.results.toList, bodyOf Tryz.f135.body, Tryz.f135.ntmps, an_f_5⟩
theorem ok_f_5 : FnOK Tryz.prog 135 fi_f_5 := ⟨⟨Tryz.f135, Tryz.func135, by kernel_rfl, rfl, rfl, by kernel_rfl⟩, by kernel_rfl⟩
def phiL_f_5 (N : Nat) : List (Nat × Summ) := [(116, sm_f_32 N)]
def sg_f_5 : Summ := sigOf [.d (.slice tPart) false, .cl 116 [tWant]] true [.d tInt false]
def S_f_5_0 (s : List Part) (t7 : Int) (t8 : Int) (fpc0 : Int) (fpc1 : Int) (fpc2 : List Txt) (fpc3 : List Use) (fpc4 : List Txt) (fpc5 : List Txt) : St := ⟨[(0, vv tPart.slice s), (1, AV.w (V1.one (C.fn 116 [500001]))), (7, vv tInt t7), (8, vv tInt t8)], [(500001, .box [.v tInt fpc0, .v tInt fpc1, .v tTxts fpc2, .v tUse.slice fpc3, .v tTxts fpc4, .v tTxts fpc5])]⟩
noncomputable def E_f_5 (N : Nat) : Env := envOf (tabOf tabL) (tabS (phiL_f_5 N)) inl0 N fi_f_5 [500001]
noncomputable def K_f_5 := (kFun (tabOf tabL) fi_f_5.res (kT (ofDs [tInt, tWant]) sg_f_5 [(500001, .bx tWant)]))
noncomputable def its_f_5_0 (N : Nat) (n : Nat) : St → Option (Int × Want) := fun S' => iter [500001] (annAt fi_f_5 0) (code (E_f_5 N) (lpIn fi_f_5.body 0 0) 0) n S' (contOf (E_f_5 N) fi_f_5.body 0 0 K_f_5)
noncomputable def it_f_5_0 (N : Nat) (s : List Part) (t7 : Int) (n : Nat) : Int → Int → Int → (List Txt) → (List Use) → (List Txt) → (List Txt) → Option (Int × Want) := fun t8 fpc0 fpc1 fpc2 fpc3 fpc4 fpc5 => its_f_5_0 N n (S_f_5_0 s t7 t8 fpc0 fpc1 fpc2 fpc3 fpc4 fpc5)
theorem fe_f_5_0 (N : Nat) : it_f_5_0 N = f_5_0 N := funext fun s => funext fun t7 => funext (lp_all (by kernel_rfl) fun n => by
 show _ = f_5_0r N s t7 (it_f_5_0 N s t7 n)
 kernel_rfl)
theorem run_f_5 (N : Nat) (s : List Part) (p1 : Want) : runST (ofDs [tInt, tWant]) (tabOf tabL) (tabS (phiL_f_5 N)) inl0 N fi_f_5 sg_f_5 [⟨.slice tPart, s⟩, ⟨tWant, p1⟩] = F.f_5 N s p1 := by
 show _ = F.f_5b N (F.f_5_0 N) s p1
 rw [← fe_f_5_0 N]
 kernel_rfl
def sm_f_5 (N : Nat) : Summ := summOf [.d (.slice tPart) false, .cl 116 [tWant]] true [.d tInt false] [tInt, tWant] (F.f_5 N)
theorem con_f_5 (N : Nat) : Contract Tryz.prog 135 (sm_f_5 N) := con_of (N := N) tabOK mixed (callOK_list (l := phiL_f_5 N) (allc rfl (con_f_32 N) trivial)) (inl0_ok _) ok_f_5 (by decide) fun s p1 => run_f_5 N s p1
def an_f_1 : Nat → Option Ann := fun _ => none
noncomputable def fi_f_1 : FI := ⟨Tryz.f115.results.toList, bodyOf Tryz.f115.body, Tryz.f115.ntmps, an_f_1⟩
theorem ok_f_1 : FnOK Tryz.prog 115 fi_f_1 := ⟨⟨Tryz.f115, Tryz.func115, by kernel_rfl, rfl, rfl, by kernel_rfl⟩, by kernel_rfl⟩
def phiL_f_1 (N : Nat) : List (Nat × Summ) := [(11700135, sm_f_5 N)]
def sg_f_1 : Summ := sigOf [.d (.slice tPart) false, .cl 116 [tWant]] true [.d (.bool) false]
theorem run_f_1 (N : Nat) (s : List Part) (p1 : Want) : runST (ofDs [.bool, tWant]) (tabOf tabL) (tabS (phiL_f_1 N)) inl0 N fi_f_1 sg_f_1 [⟨.slice tPart, s⟩, ⟨tWant, p1⟩] = F.f_1 N s p1 := by kernel_rfl
def sm_f_1 (N : Nat) : Summ := summOf [.d (.slice tPart) false, .cl 116 [tWant]] true [.d (.bool) false] [.bool, tWant] (F.f_1 N)
theorem con_f_1 (N : Nat) : Contract Tryz.prog 115 (sm_f_1 N) := con_of (N := N) tabOK mixed (callOK_list (l := phiL_f_1 N) (allc rfl (con_f_5 N) trivial)) (inl0_ok _) ok_f_1 (by decide) fun s p1 => run_f_1 N s p1
def an_f_33 : Nat → Option Ann := fun _ => none
noncomputable def fi_f_33 : FI := ⟨Tryz.f117.results.toList, bodyOf Tryz.f117.body, Tryz.f117.ntmps, an_f_33⟩
theorem ok_f_33 : FnOK Tryz.prog 117 fi_f_33 := ⟨⟨Tryz.f117, Tryz.func117, by kernel_rfl, rfl, rfl, by kernel_rfl⟩, by kernel_rfl⟩
def phiL_f_33 (N : Nat) : List (Nat × Summ) := [(77, sm_f_97 N)]
def sg_f_33 : Summ := sigOf [.d tPart true, .bx tWant] true [.d (.bool) false]
theorem run_f_33 (N : Nat) (p : Part) (p1 : Want) : runST (ofDs [.bool, tWant]) (tabOf tabL) (tabS (phiL_f_33 N)) inl0 N fi_f_33 sg_f_33 [⟨tPart, p⟩, ⟨tWant, p1⟩] = F.f_33 N p p1 := by kernel_rfl
def sm_f_33 (N : Nat) : Summ := summOf [.d tPart true, .bx tWant] true [.d (.bool) false] [.bool, tWant] (F.f_33 N)
theorem con_f_33 (N : Nat) : Contract Tryz.prog 117 (sm_f_33 N) := con_of (N := N) tabOK mixed (callOK_list (l := phiL_f_33 N) (allc rfl (con_f_97 N) trivial)) (inl0_ok _) ok_f_33 (by decide) fun p p1 => run_f_33 N p p1
def an_f_6 : Nat → Option Ann
 | 0 => some ⟨⟨[(0, kp), (1, kp), (7, kp), (8, kp)], [(500001, [kp, kp, kp, kp, kp, kp])], []⟩, [(0, ⟨[], [(500001, [kp, kp, kp, kp, kp, kp])], []⟩)], ⟨[(4, kp)], [(500001, [kp, kp, kp, kp, kp, kp])], []⟩⟩
 | _ => none
noncomputable def fi_f_6 : FI := ⟨Tryz.f135.results.toList, bodyOf Tryz.f135.body, Tryz.f135.ntmps, an_f_6⟩
theorem ok_f_6 : FnOK Tryz.prog 135 fi_f_6 := ⟨⟨Tryz.f135, Tryz.func135, by kernel_rfl, rfl, rfl, by kernel_rfl⟩, by kernel_rfl⟩
def phiL_f_6 (N : Nat) : List (Nat × Summ) := [(117, sm_f_33 N)]
def sg_f_6 : Summ := sigOf [.d (.slice tPart) false, .cl 117 [tWant]] true [.d tInt false]
def S_f_6_0 (s : List Part) (t7 : Int) (t8 : Int) (fpc0 : Int) (fpc1 : Int) (fpc2 : List Txt) (fpc3 : List Use) (fpc4 : List Txt) (fpc5 : List Txt) : St := ⟨[(0, vv tPart.slice s), (1, AV.w (V1.one (C.fn 117 [500001]))), (7, vv tInt t7), (8, vv tInt t8)], [(500001, .box [.v tInt fpc0, .v tInt fpc1, .v tTxts fpc2, .v tUse.slice fpc3, .v tTxts fpc4, .v tTxts fpc5])]⟩
noncomputable def E_f_6 (N : Nat) : Env := envOf (tabOf tabL) (tabS (phiL_f_6 N)) inl0 N fi_f_6 [500001]
noncomputable def K_f_6 := (kFun (tabOf tabL) fi_f_6.res (kT (ofDs [tInt, tWant]) sg_f_6 [(500001, .bx tWant)]))
noncomputable def its_f_6_0 (N : Nat) (n : Nat) : St → Option (Int × Want) := fun S' => iter [500001] (annAt fi_f_6 0) (code (E_f_6 N) (lpIn fi_f_6.body 0 0) 0) n S' (contOf (E_f_6 N) fi_f_6.body 0 0 K_f_6)
noncomputable def it_f_6_0 (N : Nat) (s : List Part) (t7 : Int) (n : Nat) : Int → Int → Int → (List Txt) → (List Use) → (List Txt) → (List Txt) → Option (Int × Want) := fun t8 fpc0 fpc1 fpc2 fpc3 fpc4 fpc5 => its_f_6_0 N n (S_f_6_0 s t7 t8 fpc0 fpc1 fpc2 fpc3 fpc4 fpc5)
theorem fe_f_6_0 (N : Nat) : it_f_6_0 N = f_6_0 N := funext fun s => funext fun t7 => funext (lp_all (by kernel_rfl) fun n => by
 show _ = f_6_0r N s t7 (it_f_6_0 N s t7 n)
 kernel_rfl)
theorem run_f_6 (N : Nat) (s : List Part) (p1 : Want) : runST (ofDs [tInt, tWant]) (tabOf tabL) (tabS (phiL_f_6 N)) inl0 N fi_f_6 sg_f_6 [⟨.slice tPart, s⟩, ⟨tWant, p1⟩] = F.f_6 N s p1 := by
 show _ = F.f_6b N (F.f_6_0 N) s p1
 rw [← fe_f_6_0 N]
 kernel_rfl
def sm_f_6 (N : Nat) : Summ := summOf [.d (.slice tPart) false, .cl 117 [tWant]] true [.d tInt false] [tInt, tWant] (F.f_6 N)
theorem con_f_6 (N : Nat) : Contract Tryz.prog 135 (sm_f_6 N) := con_of (N := N) tabOK mixed (callOK_list (l := phiL_f_6 N) (allc rfl (con_f_33 N) trivial)) (inl0_ok _) ok_f_6 (by decide) fun s p1 => run_f_6 N s p1
def an_f_2 : Nat → Option Ann := fun _ => none
noncomputable def fi_f_2 : FI := ⟨Tryz.f115.results.toList, bodyOf Tryz.f115.body, Tryz.f115.ntmps, an_f_2⟩
theorem ok_f_2 : FnOK Tryz.prog 115 fi_f_2 := ⟨⟨Tryz.f115, Tryz.func115, by kernel_rfl, rfl, rfl, by kernel_rfl⟩, by kernel_rfl⟩
def phiL_f_2 (N : Nat) : List (Nat × Summ) := [(11800135, sm_f_6 N)]
def sg_f_2 : Summ := sigOf [.d (.slice tPart) false, .cl 117 [tWant]] true [.d (.bool) false]
theorem run_f_2 (N : Nat) (s : List Part) (p1 : Want) : runST (ofDs [.bool, tWant]) (tabOf tabL) (tabS (phiL_f_2 N)) inl0 N fi_f_2 sg_f_2 [⟨.slice tPart, s⟩, ⟨tWant, p1⟩] = F.f_2 N s p1 := by kernel_rfl
def sm_f_2 (N : Nat) : Summ := summOf [.d (.slice tPart) false, .cl 117 [tWant]] true [.d (.bool) false] [.bool, tWant] (F.f_2 N)
theorem con_f_2 (N : Nat) : Contract Tryz.prog 115 (sm_f_2 N) := con_of (N := N) tabOK mixed (callOK_list (l := phiL_f_2 N) (allc rfl (con_f_6 N) trivial)) (inl0_ok _) ok_f_2 (by decide) fun s p1 => run_f_2 N s p1
def an_f_113 : Nat → Option Ann := fun _ => none
noncomputable def fi_f_113 : FI := ⟨Tryz.f66.results.toList, bodyOf Tryz.f66.body, Tryz.f66.ntmps, an_f_113⟩
theorem ok_f_113 : FnOK Tryz.prog 66 fi_f_113 := ⟨⟨Tryz.f66, Tryz.func66, by kernel_rfl, rfl, rfl, by kernel_rfl⟩, by kernel_rfl⟩
def phiL_f_113 (N : Nat) : List (Nat × Summ) := [(134, sm_f_25 N)]
def sg_f_113 : Summ := sigOf [.d tTxts false, .d tTxts false] false [.own tTxts false [(9, none)]]
theorem run_f_113 (N : Nat) (a : List Txt) (b : List Txt) : runST (ofDs [tTxts]) (tabOf tabL) (tabS (phiL_f_113 N)) inlS N fi_f_113 sg_f_113 [⟨tTxts, a⟩, ⟨tTxts, b⟩] = F.f_113 N a b := by kernel_rfl
def sm_f_113 (N : Nat) : Summ := summOf [.d tTxts false, .d tTxts false] false [.own tTxts false [(9, none)]] [tTxts] (F.f_113 N)
theorem con_f_113 (N : Nat) : Contract Tryz.prog 66 (sm_f_113 N) := con_of (N := N) tabOK mixed (callOK_list (l := phiL_f_113 N) (allc rfl (con_f_25 N) trivial)) inlS_ok ok_f_113 (by decide) fun a b => run_f_113 N a b
def an_f_42 : Nat → Option Ann
 | 1 => some ⟨⟨[(2, kp), (3, kp), (67, kp), (68, kp), (69, kp)], [(2, [kp, kp, kp, kp, kp]), (3, [kp, kp, kp, kp, kp, kp])], []⟩, [(1, ⟨[(2, kp), (3, kp)], [(2, [kp, kp, kp, kp, kp]), (3, [kp, kp, kp, kp, kp, kp])], []⟩)], ⟨[(4, kp)], [], []⟩⟩
 | 3 => some ⟨⟨[(2, kp), (3, kp), (108, kp), (109, kp), (110, kp)], [(2, [kp, kp, kp, kp, kp]), (3, [kp, kp, kp, kp, kp, kp])], []⟩, [(3, ⟨[], [], []⟩)], ⟨[(4, kp)], [], []⟩⟩
 | _ => none
noncomputable def fi_f_42 : FI := ⟨Tryz.f40.results.toList, bodyOf Tryz.f40.body, Tryz.f40.ntmps, an_f_42⟩
theorem ok_f_42 : FnOK Tryz.prog 40 fi_f_42 := ⟨⟨Tryz.f40, Tryz.func40, by kernel_rfl, rfl, rfl, by kernel_rfl⟩, by kernel_rfl⟩
def phiL_f_42 (N : Nat) : List (Nat × Summ) := [(22, sm_f_34 N), (46, sm_f_35 N), (113, sm_f_21 N), (57, sm_f_23 N), (114, sm_f_115 N), (11700115, sm_f_1 N), (11800115, sm_f_2 N), (74, sm_f_22 N), (60, sm_f_31 N), (118, sm_f_81 N), (66, sm_f_113 N)]
def sg_f_42 : Summ := sigOf [.d tBook true, .d tWant true] false [.d tInt false]
def S_f_42_3 (b : Book) (r_6 : Bool × Want) (t109 : Int) (t110 : Int) : St := ⟨[(2, vb 2), (3, vb 3), (108, vv tUse.slice r_6.2.2.2.2.1), (109, vv tInt t109), (110, vv tInt t110)], [(2, .box [.v tFoe.slice b.1, .v tSpot.slice b.2.1, .v tTxts b.2.2.1, .v tPart.slice b.2.2.2.1, .v tInt b.2.2.2.2]), (3, .box [.v tInt r_6.2.1, .v tInt r_6.2.2.1, .v tTxts r_6.2.2.2.1, .v tUse.slice r_6.2.2.2.2.1, .v tTxts r_6.2.2.2.2.2.1, .v tTxts r_6.2.2.2.2.2.2])]⟩
def S_f_42_1 (b : Book) (r_6 : Bool × Want) (t68 : Int) (t69 : Int) : St := ⟨[(2, vb 2), (3, vb 3), (67, vv tUse.slice r_6.2.2.2.2.1), (68, vv tInt t68), (69, vv tInt t69)], [(2, .box [.v tFoe.slice b.1, .v tSpot.slice b.2.1, .v tTxts b.2.2.1, .v tPart.slice b.2.2.2.1, .v tInt b.2.2.2.2]), (3, .box [.v tInt r_6.2.1, .v tInt r_6.2.2.1, .v tTxts r_6.2.2.2.1, .v tUse.slice r_6.2.2.2.2.1, .v tTxts r_6.2.2.2.2.2.1, .v tTxts r_6.2.2.2.2.2.2])]⟩
noncomputable def E_f_42 (N : Nat) : Env := envOf (tabOf tabL) (tabS (phiL_f_42 N)) inl0 N fi_f_42 []
noncomputable def K_f_42 := (kFun (tabOf tabL) fi_f_42.res (kT (ofDs [tInt]) sg_f_42 []))
noncomputable def its_f_42_3 (N : Nat) (n : Nat) : St → Option Int := fun S' => iter [] (annAt fi_f_42 3) (code (E_f_42 N) (lpIn fi_f_42.body 0 3) 3) n S' (contOf (E_f_42 N) fi_f_42.body 0 3 K_f_42)
noncomputable def it_f_42_3 (N : Nat) (b : Book) (r_6 : Bool × Want) (t109 : Int) (n : Nat) : Int → Option Int := fun t110 => its_f_42_3 N n (S_f_42_3 b r_6 t109 t110)
theorem fe_f_42_3 (N : Nat) : it_f_42_3 N = f_42_3 N := funext fun b => funext fun r_6 => funext fun t109 => funext (lp_all (by kernel_rfl) fun n => by
 show _ = f_42_3r N b r_6 t109 (it_f_42_3 N b r_6 t109 n)
 kernel_rfl)
noncomputable def its_f_42_1 (N : Nat) (n : Nat) : St → Option Int := fun S' => iter [] (annAt fi_f_42 1) (code (E_f_42 N) (lpIn fi_f_42.body 0 1) 1) n S' (contOf (E_f_42 N) fi_f_42.body 0 1 K_f_42)
noncomputable def it_f_42_1 (N : Nat) (b : Book) (r_6 : Bool × Want) (t68 : Int) (n : Nat) : Int → Option Int := fun t69 => its_f_42_1 N n (S_f_42_1 b r_6 t68 t69)
theorem fe_f_42_1 (N : Nat) : it_f_42_1 N = f_42_1 N := funext fun b => funext fun r_6 => funext fun t68 => funext (lp_all (by kernel_rfl) fun n => by
 show _ = f_42_1r N (f_42_3 N) b r_6 t68 (it_f_42_1 N b r_6 t68 n)
 rw [show f_42_3 N = it_f_42_3 N from (fe_f_42_3 N).symm]
 kernel_rfl)
theorem run_f_42 (N : Nat) (b : Book) (w : Want) : runST (ofDs [tInt]) (tabOf tabL) (tabS (phiL_f_42 N)) inl0 N fi_f_42 sg_f_42 [⟨tBook, b⟩, ⟨tWant, w⟩] = F.f_42 N b w := by
 show _ = F.f_42b N (F.f_42_1 N) b w
 rw [← fe_f_42_1 N]
 kernel_rfl
def sm_f_42 (N : Nat) : Summ := summOf [.d tBook true, .d tWant true] false [.d tInt false] [tInt] (F.f_42 N)
theorem con_f_42 (N : Nat) : Contract Tryz.prog 40 (sm_f_42 N) := con_of (N := N) tabOK mixed (callOK_list (l := phiL_f_42 N) (allc rfl (con_f_34 N) (allc rfl (con_f_35 N) (allc rfl (con_f_21 N) (allc rfl (con_f_23 N) (allc rfl (con_f_115 N) (allc rfl (con_f_1 N) (allc rfl (con_f_2 N) (allc rfl (con_f_22 N) (allc rfl (con_f_31 N) (allc rfl (con_f_81 N) (allc rfl (con_f_113 N) trivial)))))))))))) (inl0_ok _) ok_f_42 (by decide) fun b w => run_f_42 N b w
def an_f_40 : Nat → Option Ann
 | 0 => some ⟨⟨[(3, kp), (4, kp), (7, kp), (47, kp), (48, kp), (49, kp)], [(3, [kp, kp, kp, kp, kp, kp]), (4, [kp, kp, kp, kp, kp]), (7, [.own 1000700 106 tFoe, Dir.dow 1000701 34 [9] tSpot, .own 1000702 9 Ty.str, Dir.dow 1000703 94 [9, 82, 9, 9] tPart, kp])], []⟩, [(0, ⟨[(4, kp), (7, kp)], [(4, [kp, kp, kp, kp, kp]), (7, [.own 1000700 106 tFoe, Dir.dow 1000701 34 [9] tSpot, .own 1000702 9 Ty.str, Dir.dow 1000703 94 [9, 82, 9, 9] tPart, kp])], []⟩)], ⟨[], [], []⟩⟩
 | _ => none
noncomputable def fi_f_40 : FI := ⟨Tryz.f19.results.toList, bodyOf Tryz.f19.body, Tryz.f19.ntmps, an_f_40⟩
theorem ok_f_40 : FnOK Tryz.prog 19 fi_f_40 := ⟨⟨Tryz.f19, Tryz.func19, by kernel_rfl, rfl, rfl, by kernel_rfl⟩, by kernel_rfl⟩
def phiL_f_40 (N : Nat) : List (Nat × Summ) := [(40, sm_f_42 N), (56, sm_f_56 N), (57, sm_f_23 N), (65, sm_f_57 N), (60, sm_f_31 N), (66, sm_f_113 N)]
def sg_f_40 : Summ := sigOf [.d tBook true, .d tWant true] false [.own tBook true [(106, none), (34, (some [9])), (9, none), (94, (some [9, 82, 9, 9]))], .d tInt false]
def S_f_40_0 (w : Want) (r_1 : Book) (t48 : Int) (t4c4 : Int) (out7c3a : List Part) (t49 : Int) (out7c1a : List Spot) : St := ⟨[(3, vb 3), (4, vb 4), (7, vb 7), (47, vv tUse.slice w.2.2.2.1), (48, vv tInt t48), (49, vv tInt t49)], [(3, .box [.v tInt w.1, .v tInt w.2.1, .v tTxts w.2.2.1, .v tUse.slice w.2.2.2.1, .v tTxts w.2.2.2.2.1, .v tTxts w.2.2.2.2.2]), (4, .box [.emp, .emp, .emp, .emp, .v tInt t4c4]), (7, .box [.arr 1000700, .arr 1000701, .arr 1000702, .arr 1000703, .v tInt w.1]), (1000700, .arr 106 tFoe r_1.1), (1000701, .arr 34 tSpot out7c1a (Dp.yes [9])), (1000702, .arr 9 Ty.str r_1.2.2.1), (1000703, .arr 94 tPart out7c3a (Dp.yes [9, 82, 9, 9]))]⟩
noncomputable def E_f_40 (N : Nat) : Env := envOf (tabOf tabL) (tabS (phiL_f_40 N)) inl0 N fi_f_40 []
noncomputable def K_f_40 := (kFun (tabOf tabL) fi_f_40.res (kT (ofDs [tBook, tInt]) sg_f_40 []))
noncomputable def its_f_40_0 (N : Nat) (n : Nat) : St → Option (Book × Int) := fun S' => iter [] (annAt fi_f_40 0) (code (E_f_40 N) (lpIn fi_f_40.body 0 0) 0) n S' (contOf (E_f_40 N) fi_f_40.body 0 0 K_f_40)
noncomputable def it_f_40_0 (N : Nat) (w : Want) (r_1 : Book) (t48 : Int) (t4c4 : Int) (out7c3a : List Part) (n : Nat) : Int → (List Spot) → Option (Book × Int) := fun t49 out7c1a => its_f_40_0 N n (S_f_40_0 w r_1 t48 t4c4 out7c3a t49 out7c1a)
theorem fe_f_40_0 (N : Nat) : it_f_40_0 N = f_40_0 N := funext fun w => funext fun r_1 => funext fun t48 => funext fun t4c4 => funext fun out7c3a => funext (lp_all (by kernel_rfl) fun n => by
 show _ = f_40_0r N w r_1 t48 t4c4 out7c3a (it_f_40_0 N w r_1 t48 t4c4 out7c3a n)
 kernel_rfl)
theorem run_f_40 (N : Nat) (b : Book) (w : Want) : runST (ofDs [tBook, tInt]) (tabOf tabL) (tabS (phiL_f_40 N)) inl0 N fi_f_40 sg_f_40 [⟨tBook, b⟩, ⟨tWant, w⟩] = F.f_40 N b w := by
 show _ = F.f_40b N (F.f_40_0 N) b w
 rw [← fe_f_40_0 N]
 kernel_rfl
def sm_f_40 (N : Nat) : Summ := summOf [.d tBook true, .d tWant true] false [.own tBook true [(106, none), (34, (some [9])), (9, none), (94, (some [9, 82, 9, 9]))], .d tInt false] [tBook, tInt] (F.f_40 N)
theorem con_f_40 (N : Nat) : Contract Tryz.prog 19 (sm_f_40 N) := con_of (N := N) tabOK mixed (callOK_list (l := phiL_f_40 N) (allc rfl (con_f_42 N) (allc rfl (con_f_56 N) (allc rfl (con_f_23 N) (allc rfl (con_f_57 N) (allc rfl (con_f_31 N) (allc rfl (con_f_113 N) trivial))))))) (inl0_ok _) ok_f_40 (by decide) fun b w => run_f_40 N b w
def an_f_83 : Nat → Option Ann
 | 0 => some ⟨⟨[(0, kp), (1, kp), (5, kp)], [], []⟩, [(0, ⟨[], [], []⟩)], ⟨[(4, kp)], [], []⟩⟩
 | _ => none
noncomputable def fi_f_83 : FI := ⟨Tryz.f69.results.toList, bodyOf Tryz.f69.body, Tryz.f69.ntmps, an_f_83⟩
theorem ok_f_83 : FnOK Tryz.prog 69 fi_f_83 := ⟨⟨Tryz.f69, Tryz.func69, by kernel_rfl, rfl, rfl, by kernel_rfl⟩, by kernel_rfl⟩
def phiL_f_83 (N : Nat) : List (Nat × Summ) := []
def sg_f_83 : Summ := sigOf [.d tTxts false, .d tTxts false] false [.d (.bool) false]
def S_f_83_0 (a : List Txt) (b : List Txt) (i5 : Int) : St := ⟨[(0, vv tTxts a), (1, vv tTxts b), (5, vv tInt i5)], []⟩
noncomputable def E_f_83 (N : Nat) : Env := envOf (tabOf tabL) (tabS (phiL_f_83 N)) inl0 N fi_f_83 []
noncomputable def K_f_83 := (kFun (tabOf tabL) fi_f_83.res (kT (ofDs [.bool]) sg_f_83 []))
noncomputable def its_f_83_0 (N : Nat) (n : Nat) : St → Option Bool := fun S' => iter [] (annAt fi_f_83 0) (code (E_f_83 N) (lpIn fi_f_83.body 0 0) 0) n S' (contOf (E_f_83 N) fi_f_83.body 0 0 K_f_83)
noncomputable def it_f_83_0 (N : Nat) (a : List Txt) (b : List Txt) (n : Nat) : Int → Option Bool := fun i5 => its_f_83_0 N n (S_f_83_0 a b i5)
theorem fe_f_83_0 (N : Nat) : it_f_83_0 N = f_83_0 N := funext fun a => funext fun b => funext (lp_all (by kernel_rfl) fun n => by
 show _ = f_83_0r N a b (it_f_83_0 N a b n)
 kernel_rfl)
theorem run_f_83 (N : Nat) (a : List Txt) (b : List Txt) : runST (ofDs [.bool]) (tabOf tabL) (tabS (phiL_f_83 N)) inl0 N fi_f_83 sg_f_83 [⟨tTxts, a⟩, ⟨tTxts, b⟩] = F.f_83 N a b := by
 show _ = F.f_83b N (F.f_83_0 N) a b
 rw [← fe_f_83_0 N]
 kernel_rfl
def sm_f_83 (N : Nat) : Summ := summOf [.d tTxts false, .d tTxts false] false [.d (.bool) false] [.bool] (F.f_83 N)
theorem con_f_83 (N : Nat) : Contract Tryz.prog 69 (sm_f_83 N) := con_of (N := N) tabOK mixed (callOK_list (l := phiL_f_83 N) trivial) (inl0_ok _) ok_f_83 (by decide) fun a b => run_f_83 N a b
def an_f_107 : Nat → Option Ann
 | 0 => some ⟨⟨[(2, kp), (3, kp), (5, kp)], [(2, [kp, kp, kp, kp, kp, kp]), (3, [kp, kp, kp, kp, kp, kp])], []⟩, [(0, ⟨[], [], []⟩)], ⟨[(4, kp)], [], []⟩⟩
 | _ => none
noncomputable def fi_f_107 : FI := ⟨Tryz.f48.results.toList, bodyOf Tryz.f48.body, Tryz.f48.ntmps, an_f_107⟩
theorem ok_f_107 : FnOK Tryz.prog 48 fi_f_107 := ⟨⟨Tryz.f48, Tryz.func48, by kernel_rfl, rfl, rfl, by kernel_rfl⟩, by kernel_rfl⟩
def phiL_f_107 (N : Nat) : List (Nat × Summ) := [(69, sm_f_83 N)]
def sg_f_107 : Summ := sigOf [.d tWant true, .d tWant true] false [.d (.bool) false]
def S_f_107_0 (a : Want) (b : Want) (i5 : Int) : St := ⟨[(2, vb 2), (3, vb 3), (5, vv tInt i5)], [(2, .box [.v tInt a.1, .v tInt a.2.1, .v tTxts a.2.2.1, .v tUse.slice a.2.2.2.1, .v tTxts a.2.2.2.2.1, .v tTxts a.2.2.2.2.2]), (3, .box [.v tInt b.1, .v tInt b.2.1, .v tTxts b.2.2.1, .v tUse.slice b.2.2.2.1, .v tTxts b.2.2.2.2.1, .v tTxts b.2.2.2.2.2])]⟩
noncomputable def E_f_107 (N : Nat) : Env := envOf (tabOf tabL) (tabS (phiL_f_107 N)) inl0 N fi_f_107 []
noncomputable def K_f_107 := (kFun (tabOf tabL) fi_f_107.res (kT (ofDs [.bool]) sg_f_107 []))
noncomputable def its_f_107_0 (N : Nat) (n : Nat) : St → Option Bool := fun S' => iter [] (annAt fi_f_107 0) (code (E_f_107 N) (lpIn fi_f_107.body 0 0) 0) n S' (contOf (E_f_107 N) fi_f_107.body 0 0 K_f_107)
noncomputable def it_f_107_0 (N : Nat) (a : Want) (b : Want) (n : Nat) : Int → Option Bool := fun i5 => its_f_107_0 N n (S_f_107_0 a b i5)
theorem fe_f_107_0 (N : Nat) : it_f_107_0 N = f_107_0 N := funext fun a => funext fun b => funext (lp_all (by kernel_rfl) fun n => by
 show _ = f_107_0r N a b (it_f_107_0 N a b n)
 kernel_rfl)
theorem run_f_107 (N : Nat) (a : Want) (b : Want) : runST (ofDs [.bool]) (tabOf tabL) (tabS (phiL_f_107 N)) inl0 N fi_f_107 sg_f_107 [⟨tWant, a⟩, ⟨tWant, b⟩] = F.f_107 N a b := by
 show _ = F.f_107b N (F.f_107_0 N) a b
 rw [← fe_f_107_0 N]
 kernel_rfl
def sm_f_107 (N : Nat) : Summ := summOf [.d tWant true, .d tWant true] false [.d (.bool) false] [.bool] (F.f_107 N)
theorem con_f_107 (N : Nat) : Contract Tryz.prog 48 (sm_f_107 N) := con_of (N := N) tabOK mixed (callOK_list (l := phiL_f_107 N) (allc rfl (con_f_83 N) trivial)) (inl0_ok _) ok_f_107 (by decide) fun a b => run_f_107 N a b
def an_f_101 : Nat → Option Ann
 | 0 => some ⟨⟨[(2, kp), (3, kp), (5, kp)], [(2, [kp, kp, kp, kp, kp]), (3, [kp, kp, kp, kp, kp])], []⟩, [(0, ⟨[(2, kp), (3, kp)], [(2, [kp, kp, kp, kp, kp]), (3, [kp, kp, kp, kp, kp])], []⟩)], ⟨[(4, kp)], [], []⟩⟩
 | 2 => some ⟨⟨[(2, kp), (3, kp), (6, kp)], [(2, [kp, kp, kp, kp, kp]), (3, [kp, kp, kp, kp, kp])], []⟩, [(2, ⟨[(2, kp), (3, kp)], [(2, [kp, kp, kp, kp, kp]), (3, [kp, kp, kp, kp, kp])], []⟩)], ⟨[(4, kp)], [], []⟩⟩
 | 4 => some ⟨⟨[(2, kp), (3, kp), (9, kp)], [(2, [kp, kp, kp, kp, kp]), (3, [kp, kp, kp, kp, kp])], []⟩, [(4, ⟨[], [], []⟩)], ⟨[(4, kp)], [], []⟩⟩
 | _ => none
noncomputable def fi_f_101 : FI := ⟨Tryz.f21.results.toList, bodyOf Tryz.f21.body, Tryz.f21.ntmps, an_f_101⟩
theorem ok_f_101 : FnOK Tryz.prog 21 fi_f_101 := ⟨⟨Tryz.f21, Tryz.func21, by kernel_rfl, rfl, rfl, by kernel_rfl⟩, by kernel_rfl⟩
def phiL_f_101 (N : Nat) : List (Nat × Summ) := [(69, sm_f_83 N), (48, sm_f_107 N)]
def sg_f_101 : Summ := sigOf [.d tBook true, .d tBook true] false [.d (.bool) false]
def S_f_101_4 (a : Book) (b : Book) (i9 : Int) : St := ⟨[(2, vb 2), (3, vb 3), (9, vv tInt i9)], [(2, .box [.v tFoe.slice a.1, .v tSpot.slice a.2.1, .v tTxts a.2.2.1, .v tPart.slice a.2.2.2.1, .v tInt a.2.2.2.2]), (3, .box [.v tFoe.slice b.1, .v tSpot.slice b.2.1, .v tTxts b.2.2.1, .v tPart.slice b.2.2.2.1, .v tInt b.2.2.2.2])]⟩
def S_f_101_2 (a : Book) (b : Book) (i6 : Int) : St := ⟨[(2, vb 2), (3, vb 3), (6, vv tInt i6)], [(2, .box [.v tFoe.slice a.1, .v tSpot.slice a.2.1, .v tTxts a.2.2.1, .v tPart.slice a.2.2.2.1, .v tInt a.2.2.2.2]), (3, .box [.v tFoe.slice b.1, .v tSpot.slice b.2.1, .v tTxts b.2.2.1, .v tPart.slice b.2.2.2.1, .v tInt b.2.2.2.2])]⟩
def S_f_101_0 (a : Book) (b : Book) (i5 : Int) : St := ⟨[(2, vb 2), (3, vb 3), (5, vv tInt i5)], [(2, .box [.v tFoe.slice a.1, .v tSpot.slice a.2.1, .v tTxts a.2.2.1, .v tPart.slice a.2.2.2.1, .v tInt a.2.2.2.2]), (3, .box [.v tFoe.slice b.1, .v tSpot.slice b.2.1, .v tTxts b.2.2.1, .v tPart.slice b.2.2.2.1, .v tInt b.2.2.2.2])]⟩
noncomputable def E_f_101 (N : Nat) : Env := envOf (tabOf tabL) (tabS (phiL_f_101 N)) inl0 N fi_f_101 []
noncomputable def K_f_101 := (kFun (tabOf tabL) fi_f_101.res (kT (ofDs [.bool]) sg_f_101 []))
noncomputable def its_f_101_4 (N : Nat) (n : Nat) : St → Option Bool := fun S' => iter [] (annAt fi_f_101 4) (code (E_f_101 N) (lpIn fi_f_101.body 0 4) 4) n S' (contOf (E_f_101 N) fi_f_101.body 0 4 K_f_101)
noncomputable def it_f_101_4 (N : Nat) (a : Book) (b : Book) (n : Nat) : Int → Option Bool := fun i9 => its_f_101_4 N n (S_f_101_4 a b i9)
theorem fe_f_101_4 (N : Nat) : it_f_101_4 N = f_101_4 N := funext fun a => funext fun b => funext (lp_all (by kernel_rfl) fun n => by
 show _ = f_101_4r N a b (it_f_101_4 N a b n)
 kernel_rfl)
noncomputable def its_f_101_2 (N : Nat) (n : Nat) : St → Option Bool := fun S' => iter [] (annAt fi_f_101 2) (code (E_f_101 N) (lpIn fi_f_101.body 0 2) 2) n S' (contOf (E_f_101 N) fi_f_101.body 0 2 K_f_101)
noncomputable def it_f_101_2 (N : Nat) (a : Book) (b : Book) (n : Nat) : Int → Option Bool := fun i6 => its_f_101_2 N n (S_f_101_2 a b i6)
theorem fe_f_101_2 (N : Nat) : it_f_101_2 N = f_101_2 N := funext fun a => funext fun b => funext (lp_all (by kernel_rfl) fun n => by
 show _ = f_101_2r N (f_101_4 N) a b (it_f_101_2 N a b n)
 rw [show f_101_4 N = it_f_101_4 N from (fe_f_101_4 N).symm]
 kernel_rfl)
noncomputable def its_f_101_0 (N : Nat) (n : Nat) : St → Option Bool := fun S' => iter [] (annAt fi_f_101 0) (code (E_f_101 N) (lpIn fi_f_101.body 0 0) 0) n S' (contOf (E_f_101 N) fi_f_101.body 0 0 K_f_101)
noncomputable def it_f_101_0 (N : Nat) (a : Book) (b : Book) (n : Nat) : Int → Option Bool := fun i5 => its_f_101_0 N n (S_f_101_0 a b i5)
theorem fe_f_101_0 (N : Nat) : it_f_101_0 N = f_101_0 N := funext fun a => funext fun b => funext (lp_all (by kernel_rfl) fun n => by
 show _ = f_101_0r N (f_101_2 N) a b (it_f_101_0 N a b n)
 rw [show f_101_2 N = it_f_101_2 N from (fe_f_101_2 N).symm]
 kernel_rfl)
theorem run_f_101 (N : Nat) (a : Book) (b : Book) : runST (ofDs [.bool]) (tabOf tabL) (tabS (phiL_f_101 N)) inl0 N fi_f_101 sg_f_101 [⟨tBook, a⟩, ⟨tBook, b⟩] = F.f_101 N a b := by
 show _ = F.f_101b N (F.f_101_0 N) a b
 rw [← fe_f_101_0 N]
 kernel_rfl
def sm_f_101 (N : Nat) : Summ := summOf [.d tBook true, .d tBook true] false [.d (.bool) false] [.bool] (F.f_101 N)
theorem con_f_101 (N : Nat) : Contract Tryz.prog 21 (sm_f_101 N) := con_of (N := N) tabOK mixed (callOK_list (l := phiL_f_101 N) (allc rfl (con_f_83 N) (allc rfl (con_f_107 N) trivial))) (inl0_ok _) ok_f_101 (by decide) fun a b => run_f_101 N a b
def an_f_106 : Nat → Option Ann
 | 0 => some ⟨⟨[(1, kp), (2, kp), (5, kp)], [(2, [kp, kp, kp, kp, kp, kp])], []⟩, [(0, ⟨[], [], []⟩)], ⟨[(4, kp)], [], []⟩⟩
 | _ => none
noncomputable def fi_f_106 : FI := ⟨Tryz.f78.results.toList, bodyOf Tryz.f78.body, Tryz.f78.ntmps, an_f_106⟩
theorem ok_f_106 : FnOK Tryz.prog 78 fi_f_106 := ⟨⟨Tryz.f78, Tryz.func78, by kernel_rfl, rfl, rfl, by kernel_rfl⟩, by kernel_rfl⟩
def phiL_f_106 (N : Nat) : List (Nat × Summ) := []
def sg_f_106 : Summ := sigOf [.d tWant true, .d (.str) false] false [.d (.bool) false]
def S_f_106_0 (w : Want) (place : Txt) (i5 : Int) : St := ⟨[(1, vv Ty.str place), (2, vb 2), (5, vv tInt i5)], [(2, .box [.v tInt w.1, .v tInt w.2.1, .v tTxts w.2.2.1, .v tUse.slice w.2.2.2.1, .v tTxts w.2.2.2.2.1, .v tTxts w.2.2.2.2.2])]⟩
noncomputable def E_f_106 (N : Nat) : Env := envOf (tabOf tabL) (tabS (phiL_f_106 N)) inl0 N fi_f_106 []
noncomputable def K_f_106 := (kFun (tabOf tabL) fi_f_106.res (kT (ofDs [.bool]) sg_f_106 []))
noncomputable def its_f_106_0 (N : Nat) (n : Nat) : St → Option Bool := fun S' => iter [] (annAt fi_f_106 0) (code (E_f_106 N) (lpIn fi_f_106.body 0 0) 0) n S' (contOf (E_f_106 N) fi_f_106.body 0 0 K_f_106)
noncomputable def it_f_106_0 (N : Nat) (w : Want) (place : Txt) (n : Nat) : Int → Option Bool := fun i5 => its_f_106_0 N n (S_f_106_0 w place i5)
theorem fe_f_106_0 (N : Nat) : it_f_106_0 N = f_106_0 N := funext fun w => funext fun place => funext (lp_all (by kernel_rfl) fun n => by
 show _ = f_106_0r N w place (it_f_106_0 N w place n)
 kernel_rfl)
theorem run_f_106 (N : Nat) (w : Want) (place : Txt) : runST (ofDs [.bool]) (tabOf tabL) (tabS (phiL_f_106 N)) inl0 N fi_f_106 sg_f_106 [⟨tWant, w⟩, ⟨.str, place⟩] = F.f_106 N w place := by
 show _ = F.f_106b N (F.f_106_0 N) w place
 rw [← fe_f_106_0 N]
 kernel_rfl
def sm_f_106 (N : Nat) : Summ := summOf [.d tWant true, .d (.str) false] false [.d (.bool) false] [.bool] (F.f_106 N)
theorem con_f_106 (N : Nat) : Contract Tryz.prog 78 (sm_f_106 N) := con_of (N := N) tabOK mixed (callOK_list (l := phiL_f_106 N) trivial) (inl0_ok _) ok_f_106 (by decide) fun w place => run_f_106 N w place
def an_f_117 : Nat → Option Ann
 | 0 => some ⟨⟨[(0, kp), (1, kp), (5, kp)], [], []⟩, [(0, ⟨[], [], []⟩)], ⟨[(4, kp)], [], []⟩⟩
 | _ => none
noncomputable def fi_f_117 : FI := ⟨Tryz.f35.results.toList, bodyOf Tryz.f35.body, Tryz.f35.ntmps, an_f_117⟩
theorem ok_f_117 : FnOK Tryz.prog 35 fi_f_117 := ⟨⟨Tryz.f35, Tryz.func35, by kernel_rfl, rfl, rfl, by kernel_rfl⟩, by kernel_rfl⟩
def phiL_f_117 (N : Nat) : List (Nat × Summ) := []
def sg_f_117 : Summ := sigOf [.d tTxts false, .d (.str) false] false [.d (.bool) false]
def S_f_117_0 (list : List Txt) (name : Txt) (i5 : Int) : St := ⟨[(0, vv tTxts list), (1, vv Ty.str name), (5, vv tInt i5)], []⟩
noncomputable def E_f_117 (N : Nat) : Env := envOf (tabOf tabL) (tabS (phiL_f_117 N)) inl0 N fi_f_117 []
noncomputable def K_f_117 := (kFun (tabOf tabL) fi_f_117.res (kT (ofDs [.bool]) sg_f_117 []))
noncomputable def its_f_117_0 (N : Nat) (n : Nat) : St → Option Bool := fun S' => iter [] (annAt fi_f_117 0) (code (E_f_117 N) (lpIn fi_f_117.body 0 0) 0) n S' (contOf (E_f_117 N) fi_f_117.body 0 0 K_f_117)
noncomputable def it_f_117_0 (N : Nat) (list : List Txt) (name : Txt) (n : Nat) : Int → Option Bool := fun i5 => its_f_117_0 N n (S_f_117_0 list name i5)
theorem fe_f_117_0 (N : Nat) : it_f_117_0 N = f_117_0 N := funext fun list => funext fun name => funext (lp_all (by kernel_rfl) fun n => by
 show _ = f_117_0r N list name (it_f_117_0 N list name n)
 kernel_rfl)
theorem run_f_117 (N : Nat) (list : List Txt) (name : Txt) : runST (ofDs [.bool]) (tabOf tabL) (tabS (phiL_f_117 N)) inl0 N fi_f_117 sg_f_117 [⟨tTxts, list⟩, ⟨.str, name⟩] = F.f_117 N list name := by
 show _ = F.f_117b N (F.f_117_0 N) list name
 rw [← fe_f_117_0 N]
 kernel_rfl
def sm_f_117 (N : Nat) : Summ := summOf [.d tTxts false, .d (.str) false] false [.d (.bool) false] [.bool] (F.f_117 N)
theorem con_f_117 (N : Nat) : Contract Tryz.prog 35 (sm_f_117 N) := con_of (N := N) tabOK mixed (callOK_list (l := phiL_f_117 N) trivial) (inl0_ok _) ok_f_117 (by decide) fun list name => run_f_117 N list name
def an_f_105 : Nat → Option Ann
 | 0 => some ⟨⟨[(1, kp), (3, kp)], [(1, [kp, kp, kp, kp, kp])], []⟩, [(0, ⟨[(1, kp)], [(1, [kp, kp, kp, kp, kp])], []⟩)], ⟨[(2, kp)], [], []⟩⟩
 | 2 => some ⟨⟨[(1, kp), (3, kp), (4, kp), (5, kp), (6, kp)], [(1, [kp, kp, kp, kp, kp]), (4, [kp, kp, kp, kp, kp])], []⟩, [(2, ⟨[(1, kp), (3, kp), (4, kp), (5, kp)], [(1, [kp, kp, kp, kp, kp]), (4, [kp, kp, kp, kp, kp])], []⟩)], ⟨[], [], []⟩⟩
 | 4 => some ⟨⟨[(1, kp), (3, kp), (4, kp), (7, kp)], [(1, [kp, kp, kp, kp, kp]), (4, [kp, kp, kp, kp, kp])], []⟩, [(4, ⟨[(1, kp), (3, kp)], [(1, [kp, kp, kp, kp, kp])], []⟩)], ⟨[(2, kp)], [], []⟩⟩
 | 6 => some ⟨⟨[(1, kp), (8, kp)], [(1, [kp, kp, kp, kp, kp])], []⟩, [(6, ⟨[], [], []⟩)], ⟨[(2, kp)], [], []⟩⟩
 | 8 => some ⟨⟨[(1, kp), (8, kp), (9, kp), (10, kp), (11, kp)], [(1, [kp, kp, kp, kp, kp])], []⟩, [(8, ⟨[(1, kp), (8, kp), (9, kp), (10, kp)], [(1, [kp, kp, kp, kp, kp])], []⟩)], ⟨[], [], []⟩⟩
 | _ => none
noncomputable def fi_f_105 : FI := ⟨Tryz.f23.results.toList, bodyOf Tryz.f23.body, Tryz.f23.ntmps, an_f_105⟩
theorem ok_f_105 : FnOK Tryz.prog 23 fi_f_105 := ⟨⟨Tryz.f23, Tryz.func23, by kernel_rfl, rfl, rfl, by kernel_rfl⟩, by kernel_rfl⟩
def phiL_f_105 (N : Nat) : List (Nat × Summ) := [(78, sm_f_106 N), (35, sm_f_117 N)]
def sg_f_105 : Summ := sigOf [.d tBook true] false [.d (.bool) false]
def S_f_105_4 (b : Book) (i3 : Int) (s4c0 : Txt) (s4c1 : Int) (s4c2 : Int) (s4c3 : Int) (s4c4 : List Txt) (k7 : Int) : St := ⟨[(1, vb 1), (3, vv tInt i3), (4, vb 4), (7, vv tInt k7)], [(1, .box [.v tFoe.slice b.1, .v tSpot.slice b.2.1, .v tTxts b.2.2.1, .v tPart.slice b.2.2.2.1, .v tInt b.2.2.2.2]), (4, .box [.v Ty.str s4c0, .v tInt s4c1, .v tInt s4c2, .v tInt s4c3, .v tTxts s4c4])]⟩
def S_f_105_2 (b : Book) (i3 : Int) (s4c0 : Txt) (s4c1 : Int) (s4c2 : Int) (s4c3 : Int) (s4c4 : List Txt) (n5 : Int) (k6 : Int) : St := ⟨[(1, vb 1), (3, vv tInt i3), (4, vb 4), (5, vv tInt n5), (6, vv tInt k6)], [(1, .box [.v tFoe.slice b.1, .v tSpot.slice b.2.1, .v tTxts b.2.2.1, .v tPart.slice b.2.2.2.1, .v tInt b.2.2.2.2]), (4, .box [.v Ty.str s4c0, .v tInt s4c1, .v tInt s4c2, .v tInt s4c3, .v tTxts s4c4])]⟩
def S_f_105_8 (b : Book) (i8 : Int) (opens9 : Int) (shuts10 : Int) (k11 : Int) : St := ⟨[(1, vb 1), (8, vv tInt i8), (9, vv tInt opens9), (10, vv tInt shuts10), (11, vv tInt k11)], [(1, .box [.v tFoe.slice b.1, .v tSpot.slice b.2.1, .v tTxts b.2.2.1, .v tPart.slice b.2.2.2.1, .v tInt b.2.2.2.2])]⟩
def S_f_105_6 (b : Book) (i8 : Int) : St := ⟨[(1, vb 1), (8, vv tInt i8)], [(1, .box [.v tFoe.slice b.1, .v tSpot.slice b.2.1, .v tTxts b.2.2.1, .v tPart.slice b.2.2.2.1, .v tInt b.2.2.2.2])]⟩
def S_f_105_0 (b : Book) (i3 : Int) : St := ⟨[(1, vb 1), (3, vv tInt i3)], [(1, .box [.v tFoe.slice b.1, .v tSpot.slice b.2.1, .v tTxts b.2.2.1, .v tPart.slice b.2.2.2.1, .v tInt b.2.2.2.2])]⟩
noncomputable def E_f_105 (N : Nat) : Env := envOf (tabOf tabL) (tabS (phiL_f_105 N)) inl0 N fi_f_105 []
noncomputable def K_f_105 := (kFun (tabOf tabL) fi_f_105.res (kT (ofDs [.bool]) sg_f_105 []))
noncomputable def its_f_105_4 (N : Nat) (nxS0 : St → Option Bool) (n : Nat) : St → Option Bool := fun S' => iter [] (annAt fi_f_105 4) (code (E_f_105 N) (lpIn (lpIn fi_f_105.body 0 0) 0 4) 4) n S' (contOf (E_f_105 N) (lpIn fi_f_105.body 0 0) 0 4 (kLoop [] (annAt fi_f_105 0) nxS0 (contOf (E_f_105 N) fi_f_105.body 0 0 K_f_105)))
noncomputable def it_f_105_4 (N : Nat) (nxS0 : St → Option Bool) (b : Book) (i3 : Int) (s4c0 : Txt) (s4c1 : Int) (s4c2 : Int) (s4c3 : Int) (s4c4 : List Txt) (n : Nat) : Int → Option Bool := fun k7 => its_f_105_4 N nxS0 n (S_f_105_4 b i3 s4c0 s4c1 s4c2 s4c3 s4c4 k7)
theorem fe_f_105_4 (N : Nat) (nxS0 : St → Option Bool) (b : Book) : it_f_105_4 N nxS0 b = f_105_4 N (fun i3 => nxS0 (S_f_105_0 b i3)) b := funext fun i3 => funext fun s4c0 => funext fun s4c1 => funext fun s4c2 => funext fun s4c3 => funext fun s4c4 => funext (lp_all (by kernel_rfl) fun n => by
 show _ = f_105_4r N (fun i3 => nxS0 (S_f_105_0 b i3)) b i3 s4c0 s4c1 s4c2 s4c3 s4c4 (it_f_105_4 N nxS0 b i3 s4c0 s4c1 s4c2 s4c3 s4c4 n)
 kernel_rfl)
noncomputable def its_f_105_2 (N : Nat) (nxS0 : St → Option Bool) (n : Nat) : St → Option Bool := fun S' => iter [] (annAt fi_f_105 2) (code (E_f_105 N) (lpIn (lpIn fi_f_105.body 0 0) 0 2) 2) n S' (contOf (E_f_105 N) (lpIn fi_f_105.body 0 0) 0 2 (kLoop [] (annAt fi_f_105 0) nxS0 (contOf (E_f_105 N) fi_f_105.body 0 0 K_f_105)))
noncomputable def it_f_105_2 (N : Nat) (nxS0 : St → Option Bool) (b : Book) (i3 : Int) (s4c0 : Txt) (s4c1 : Int) (s4c2 : Int) (s4c3 : Int) (s4c4 : List Txt) (n : Nat) : Int → Int → Option Bool := fun n5 k6 => its_f_105_2 N nxS0 n (S_f_105_2 b i3 s4c0 s4c1 s4c2 s4c3 s4c4 n5 k6)
theorem fe_f_105_2 (N : Nat) (nxS0 : St → Option Bool) (b : Book) : it_f_105_2 N nxS0 b = f_105_2 N (fun i3 => nxS0 (S_f_105_0 b i3)) b := funext fun i3 => funext fun s4c0 => funext fun s4c1 => funext fun s4c2 => funext fun s4c3 => funext fun s4c4 => funext (lp_all (by kernel_rfl) fun n => by
 show _ = f_105_2r N (f_105_4 N (fun i3 => nxS0 (S_f_105_0 b i3)) b) (fun i3 => nxS0 (S_f_105_0 b i3)) b i3 s4c0 s4c1 s4c2 s4c3 s4c4 (it_f_105_2 N nxS0 b i3 s4c0 s4c1 s4c2 s4c3 s4c4 n)
 rw [show f_105_4 N (fun i3 => nxS0 (S_f_105_0 b i3)) b = it_f_105_4 N nxS0 b from (fe_f_105_4 N nxS0 b).symm]
 kernel_rfl)
noncomputable def its_f_105_8 (N : Nat) (nxS6 : St → Option Bool) (n : Nat) : St → Option Bool := fun S' => iter [] (annAt fi_f_105 8) (code (E_f_105 N) (lpIn (lpIn fi_f_105.body 0 6) 6 8) 8) n S' (contOf (E_f_105 N) (lpIn fi_f_105.body 0 6) 6 8 (kLoop [] (annAt fi_f_105 6) nxS6 (contOf (E_f_105 N) fi_f_105.body 0 6 K_f_105)))
noncomputable def it_f_105_8 (N : Nat) (nxS6 : St → Option Bool) (b : Book) (i8 : Int) (n : Nat) : Int → Int → Int → Option Bool := fun opens9 shuts10 k11 => its_f_105_8 N nxS6 n (S_f_105_8 b i8 opens9 shuts10 k11)
theorem fe_f_105_8 (N : Nat) (nxS6 : St → Option Bool) (b : Book) : it_f_105_8 N nxS6 b = f_105_8 N (fun i8 => nxS6 (S_f_105_6 b i8)) b := funext fun i8 => funext (lp_all (by kernel_rfl) fun n => by
 show _ = f_105_8r N (fun i8 => nxS6 (S_f_105_6 b i8)) b i8 (it_f_105_8 N nxS6 b i8 n)
 kernel_rfl)
noncomputable def its_f_105_6 (N : Nat) (n : Nat) : St → Option Bool := fun S' => iter [] (annAt fi_f_105 6) (code (E_f_105 N) (lpIn fi_f_105.body 0 6) 6) n S' (contOf (E_f_105 N) fi_f_105.body 0 6 K_f_105)
noncomputable def it_f_105_6 (N : Nat) (b : Book) (n : Nat) : Int → Option Bool := fun i8 => its_f_105_6 N n (S_f_105_6 b i8)
theorem fe_f_105_6 (N : Nat) : it_f_105_6 N = f_105_6 N := funext fun b => funext (lp_all (by kernel_rfl) fun n => by
 show _ = f_105_6r N (f_105_8 N (it_f_105_6 N b n) b) b (it_f_105_6 N b n)
 rw [show f_105_8 N (it_f_105_6 N b n) b = it_f_105_8 N (its_f_105_6 N n) b from (fe_f_105_8 N (its_f_105_6 N n) b).symm]
 kernel_rfl)
noncomputable def its_f_105_0 (N : Nat) (n : Nat) : St → Option Bool := fun S' => iter [] (annAt fi_f_105 0) (code (E_f_105 N) (lpIn fi_f_105.body 0 0) 0) n S' (contOf (E_f_105 N) fi_f_105.body 0 0 K_f_105)
noncomputable def it_f_105_0 (N : Nat) (b : Book) (n : Nat) : Int → Option Bool := fun i3 => its_f_105_0 N n (S_f_105_0 b i3)
theorem fe_f_105_0 (N : Nat) : it_f_105_0 N = f_105_0 N := funext fun b => funext (lp_all (by kernel_rfl) fun n => by
 show _ = f_105_0r N (f_105_2 N (it_f_105_0 N b n) b) (f_105_6 N) b (it_f_105_0 N b n)
 rw [show f_105_2 N (it_f_105_0 N b n) b = it_f_105_2 N (its_f_105_0 N n) b from (fe_f_105_2 N (its_f_105_0 N n) b).symm]
 rw [show f_105_6 N = it_f_105_6 N from (fe_f_105_6 N).symm]
 kernel_rfl)
theorem run_f_105 (N : Nat) (b : Book) : runST (ofDs [.bool]) (tabOf tabL) (tabS (phiL_f_105 N)) inl0 N fi_f_105 sg_f_105 [⟨tBook, b⟩] = F.f_105 N b := by
 show _ = F.f_105b N (F.f_105_0 N) b
 rw [← fe_f_105_0 N]
 kernel_rfl
def sm_f_105 (N : Nat) : Summ := summOf [.d tBook true] false [.d (.bool) false] [.bool] (F.f_105 N)
theorem con_f_105 (N : Nat) : Contract Tryz.prog 23 (sm_f_105 N) := con_of (N := N) tabOK mixed (callOK_list (l := phiL_f_105 N) (allc rfl (con_f_106 N) (allc rfl (con_f_117 N) trivial))) (inl0_ok _) ok_f_105 (by decide) fun b => run_f_105 N b
def an_f_100 : Nat → Option Ann
 | 0 => some ⟨⟨[(3, kp), (4, kp), (5, .own 700005 36 (Ty.str.pair tInt)), (6, kp)], [(3, [kp, kp, kp, kp, kp])], []⟩, [(0, ⟨[(3, kp), (4, kp), (5, .own 700005 36 (Ty.str.pair tInt))], [(3, [kp, kp, kp, kp, kp])], []⟩)], ⟨[(2, kp)], [], []⟩⟩
 | 2 => some ⟨⟨[(3, kp), (4, kp), (5, .own 700005 36 (Ty.str.pair tInt)), (7, kp)], [(3, [Dir.frz tFoe, Dir.frz tSpot, Dir.frz Ty.str, Dir.frz tPart, kp])], []⟩, [(2, ⟨[(3, kp)], [(3, [Dir.frz tFoe, Dir.frz tSpot, Dir.frz Ty.str, Dir.frz tPart, kp])], []⟩)], ⟨[(2, kp)], [], []⟩⟩
 | 5 => some ⟨⟨[(3, kp), (4, kp), (5, .own 700005 36 (Ty.str.pair tInt)), (7, kp), (8, kp), (9, kp), (10, kp), (11, kp), (12, kp), (13, kp)], [(3, [kp, kp, kp, kp, kp]), (8, [kp, kp, kp, kp, kp, kp, kp, kp, kp, kp]), (9, [.own 1000900 106 tFoe, Dir.dow 1000901 34 [9] tSpot, .own 1000902 9 Ty.str, Dir.dow 1000903 94 [9, 82, 9, 9] tPart, kp]), (10, [.own 1001000 106 tFoe, Dir.dow 1001001 34 [9] tSpot, .own 1001002 9 Ty.str, Dir.dow 1001003 94 [9, 82, 9, 9] tPart, kp])], []⟩, [(5, ⟨[(3, kp), (4, kp), (5, .own 700005 36 (Ty.str.pair tInt)), (7, kp), (8, kp), (9, kp), (10, kp), (11, kp), (12, kp)], [(3, [kp, kp, kp, kp, kp]), (8, [kp, kp, kp, kp, kp, kp, kp, kp, kp, kp]), (9, [.own 1000900 106 tFoe, Dir.dow 1000901 34 [9] tSpot, .own 1000902 9 Ty.str, Dir.dow 1000903 94 [9, 82, 9, 9] tPart, kp]), (10, [.own 1001000 106 tFoe, Dir.dow 1001001 34 [9] tSpot, .own 1001002 9 Ty.str, Dir.dow 1001003 94 [9, 82, 9, 9] tPart, kp])], []⟩)], ⟨[(2, kp)], [], []⟩⟩
 | _ => none
noncomputable def fi_f_100 : FI := ⟨Tryz.f3.results.toList, bodyOf Tryz.f3.body, Tryz.f3.ntmps, an_f_100⟩
theorem ok_f_100 : FnOK Tryz.prog 3 fi_f_100 := ⟨⟨Tryz.f3, Tryz.func3, by kernel_rfl, rfl, rfl, by kernel_rfl⟩, by kernel_rfl⟩
def phiL_f_100 (N : Nat) : List (Nat × Summ) := [(11, sm_f_30 N), (12, sm_f_44 N), (13, sm_f_49 N), (14, sm_f_43 N), (15, sm_f_48 N), (18, sm_f_103 N), (17, sm_f_102 N), (16, sm_f_68 N), (19, sm_f_40 N), (20, sm_f_41 N), (21, sm_f_101 N), (22, sm_f_34 N), (23, sm_f_105 N)]
def sg_f_100 : Summ := sigOf [.d (.slice tByte) false] false [.d (.bool) false]
def S_f_100_5 (r : Book × List Do) (i7 : Int) (b3c0_1 : List Foe) (b3c1_1 : List Spot) (b3c2_1 : List Txt) (b3c3_1 : List Part) (b3c4_1 : Int) (real5a_1 : List (Txt × Int)) (r_35 : Book × Int) (r_36 : Book × Int) (d8c0_1 : Int) (d8c1_1 : Int) (d8c2_1 : List Txt) (d8c3_1 : List Use) (d8c4_1 : List Txt) (d8c5_1 : List Txt) (d8c6_1 : Int) (d8c7_1 : Int) (d8c8_1 : Int) (d8c9_1 : Bool) (n13_1 : Int) : St := ⟨[(3, vb 3), (4, vv tDo.slice r.2), (5, va 700005), (7, vv tInt i7), (8, vb 8), (9, vb 9), (10, vb 10), (11, vv tInt r_35.2), (12, vv tInt r_36.2), (13, vv tInt n13_1)], [(3, .box [.v tFoe.slice b3c0_1, .v tSpot.slice b3c1_1, .v tTxts b3c2_1, .v tPart.slice b3c3_1, .v tInt b3c4_1]), (8, .box [.v tInt d8c0_1, .v tInt d8c1_1, .v tTxts d8c2_1, .v tUse.slice d8c3_1, .v tTxts d8c4_1, .v tTxts d8c5_1, .v tInt d8c6_1, .v tInt d8c7_1, .v tInt d8c8_1, .v Ty.bool d8c9_1]), (9, .box [.arr 1000900, .arr 1000901, .arr 1000902, .arr 1000903, .v tInt r_35.1.2.2.2.2]), (10, .box [.arr 1001000, .arr 1001001, .arr 1001002, .arr 1001003, .v tInt r_36.1.2.2.2.2]), (700005, .arr 36 (Ty.str.pair tInt) real5a_1), (1000900, .arr 106 tFoe r_35.1.1), (1000901, .arr 34 tSpot r_35.1.2.1 (Dp.yes [9])), (1000902, .arr 9 Ty.str r_35.1.2.2.1), (1000903, .arr 94 tPart r_35.1.2.2.2.1 (Dp.yes [9, 82, 9, 9])), (1001000, .arr 106 tFoe r_36.1.1), (1001001, .arr 34 tSpot r_36.1.2.1 (Dp.yes [9])), (1001002, .arr 9 Ty.str r_36.1.2.2.1), (1001003, .arr 94 tPart r_36.1.2.2.2.1 (Dp.yes [9, 82, 9, 9]))]⟩
def S_f_100_2 (r : Book × List Do) (i7 : Int) (b3c0_1 : List Foe) (b3c1_1 : List Spot) (b3c2_1 : List Txt) (b3c3_1 : List Part) (b3c4_1 : Int) (real5a_1 : List (Txt × Int)) : St := ⟨[(3, vb 3), (4, vv tDo.slice r.2), (5, va 700005), (7, vv tInt i7)], [(3, .box [.v tFoe.slice b3c0_1, .v tSpot.slice b3c1_1, .v tTxts b3c2_1, .v tPart.slice b3c3_1, .v tInt b3c4_1]), (700005, .arr 36 (Ty.str.pair tInt) real5a_1)]⟩
def S_f_100_0 (r : Book × List Do) (i6 : Int) (real5a : List (Txt × Int)) : St := ⟨[(3, vb 3), (4, vv tDo.slice r.2), (5, va 700005), (6, vv tInt i6)], [(3, .box [.v tFoe.slice r.1.1, .v tSpot.slice r.1.2.1, .v tTxts r.1.2.2.1, .v tPart.slice r.1.2.2.2.1, .v tInt r.1.2.2.2.2]), (700005, .arr 36 (Ty.str.pair tInt) real5a)]⟩
noncomputable def E_f_100 (N : Nat) : Env := envOf (tabOf tabL) (tabS (phiL_f_100 N)) inl0 N fi_f_100 []
noncomputable def K_f_100 := (kFun (tabOf tabL) fi_f_100.res (kT (ofDs [.bool]) sg_f_100 []))
noncomputable def its_f_100_5 (N : Nat) (nxS2 : St → Option Bool) (n : Nat) : St → Option Bool := fun S' => iter [] (annAt fi_f_100 5) (code (E_f_100 N) (lpIn (lpIn fi_f_100.body 0 2) 2 5) 5) n S' (contOf (E_f_100 N) (lpIn fi_f_100.body 0 2) 2 5 (kLoop [] (annAt fi_f_100 2) nxS2 (contOf (E_f_100 N) fi_f_100.body 0 2 K_f_100)))
noncomputable def it_f_100_5 (N : Nat) (nxS2 : St → Option Bool) (r : Book × List Do) (i7 : Int) (b3c0_1 : List Foe) (b3c1_1 : List Spot) (b3c2_1 : List Txt) (b3c3_1 : List Part) (b3c4_1 : Int) (real5a_1 : List (Txt × Int)) (r_35 : Book × Int) (r_36 : Book × Int) (d8c0_1 : Int) (d8c1_1 : Int) (d8c2_1 : List Txt) (d8c3_1 : List Use) (d8c4_1 : List Txt) (d8c5_1 : List Txt) (d8c6_1 : Int) (d8c7_1 : Int) (d8c8_1 : Int) (d8c9_1 : Bool) (n : Nat) : Int → Option Bool := fun n13_1 => its_f_100_5 N nxS2 n (S_f_100_5 r i7 b3c0_1 b3c1_1 b3c2_1 b3c3_1 b3c4_1 real5a_1 r_35 r_36 d8c0_1 d8c1_1 d8c2_1 d8c3_1 d8c4_1 d8c5_1 d8c6_1 d8c7_1 d8c8_1 d8c9_1 n13_1)
theorem fe_f_100_5 (N : Nat) (nxS2 : St → Option Bool) (r : Book × List Do) : it_f_100_5 N nxS2 r = f_100_5 N (fun i7 b3c0_1 b3c1_1 b3c2_1 b3c3_1 b3c4_1 real5a_1 => nxS2 (S_f_100_2 r i7 b3c0_1 b3c1_1 b3c2_1 b3c3_1 b3c4_1 real5a_1)) r := funext fun i7 => funext fun b3c0_1 => funext fun b3c1_1 => funext fun b3c2_1 => funext fun b3c3_1 => funext fun b3c4_1 => funext fun real5a_1 => funext fun r_35 => funext fun r_36 => funext fun d8c0_1 => funext fun d8c1_1 => funext fun d8c2_1 => funext fun d8c3_1 => funext fun d8c4_1 => funext fun d8c5_1 => funext fun d8c6_1 => funext fun d8c7_1 => funext fun d8c8_1 => funext fun d8c9_1 => funext (lp_all (by kernel_rfl) fun n => by
 show _ = f_100_5r N (fun i7 b3c0_1 b3c1_1 b3c2_1 b3c3_1 b3c4_1 real5a_1 => nxS2 (S_f_100_2 r i7 b3c0_1 b3c1_1 b3c2_1 b3c3_1 b3c4_1 real5a_1)) r i7 b3c0_1 b3c1_1 b3c2_1 b3c3_1 b3c4_1 real5a_1 r_35 r_36 d8c0_1 d8c1_1 d8c2_1 d8c3_1 d8c4_1 d8c5_1 d8c6_1 d8c7_1 d8c8_1 d8c9_1 (it_f_100_5 N nxS2 r i7 b3c0_1 b3c1_1 b3c2_1 b3c3_1 b3c4_1 real5a_1 r_35 r_36 d8c0_1 d8c1_1 d8c2_1 d8c3_1 d8c4_1 d8c5_1 d8c6_1 d8c7_1 d8c8_1 d8c9_1 n)
 kernel_rfl)
noncomputable def its_f_100_2 (N : Nat) (n : Nat) : St → Option Bool := fun S' => iter [] (annAt fi_f_100 2) (code (E_f_100 N) (lpIn fi_f_100.body 0 2) 2) n S' (contOf (E_f_100 N) fi_f_100.body 0 2 K_f_100)
noncomputable def it_f_100_2 (N : Nat) (r : Book × List Do) (n : Nat) : Int → (List Foe) → (List Spot) → (List Txt) → (List Part) → Int → (List (Txt × Int)) → Option Bool := fun i7 b3c0_1 b3c1_1 b3c2_1 b3c3_1 b3c4_1 real5a_1 => its_f_100_2 N n (S_f_100_2 r i7 b3c0_1 b3c1_1 b3c2_1 b3c3_1 b3c4_1 real5a_1)
theorem fe_f_100_2 (N : Nat) : it_f_100_2 N = f_100_2 N := funext fun r => funext (lp_all (by kernel_rfl) fun n => by
 show _ = f_100_2r N (f_100_5 N (it_f_100_2 N r n) r) r (it_f_100_2 N r n)
 rw [show f_100_5 N (it_f_100_2 N r n) r = it_f_100_5 N (its_f_100_2 N n) r from (fe_f_100_5 N (its_f_100_2 N n) r).symm]
 kernel_rfl)
noncomputable def its_f_100_0 (N : Nat) (n : Nat) : St → Option Bool := fun S' => iter [] (annAt fi_f_100 0) (code (E_f_100 N) (lpIn fi_f_100.body 0 0) 0) n S' (contOf (E_f_100 N) fi_f_100.body 0 0 K_f_100)
noncomputable def it_f_100_0 (N : Nat) (r : Book × List Do) (n : Nat) : Int → (List (Txt × Int)) → Option Bool := fun i6 real5a => its_f_100_0 N n (S_f_100_0 r i6 real5a)
theorem fe_f_100_0 (N : Nat) : it_f_100_0 N = f_100_0 N := funext fun r => funext (lp_all (by kernel_rfl) fun n => by
 show _ = f_100_0r N (f_100_2 N) r (it_f_100_0 N r n)
 rw [show f_100_2 N = it_f_100_2 N from (fe_f_100_2 N).symm]
 kernel_rfl)
theorem run_f_100 (N : Nat) (code : List (Int)) : runST (ofDs [.bool]) (tabOf tabL) (tabS (phiL_f_100 N)) inl0 N fi_f_100 sg_f_100 [⟨.slice tByte, code⟩] = F.f_100 N code := by
 show _ = F.f_100b N (F.f_100_0 N) code
 rw [← fe_f_100_0 N]
 kernel_rfl
def sm_f_100 (N : Nat) : Summ := summOf [.d (.slice tByte) false] false [.d (.bool) false] [.bool] (F.f_100 N)
theorem con_f_100 (N : Nat) : Contract Tryz.prog 3 (sm_f_100 N) := con_of (N := N) tabOK mixed (callOK_list (l := phiL_f_100 N) (allc rfl (con_f_30 N) (allc rfl (con_f_44 N) (allc rfl (con_f_49 N) (allc rfl (con_f_43 N) (allc rfl (con_f_48 N) (allc rfl (con_f_103 N) (allc rfl (con_f_102 N) (allc rfl (con_f_68 N) (allc rfl (con_f_40 N) (allc rfl (con_f_41 N) (allc rfl (con_f_101 N) (allc rfl (con_f_34 N) (allc rfl (con_f_105 N) trivial)))))))))))))) (inl0_ok _) ok_f_100 (by decide) fun code => run_f_100 N code
end
end Go.MC
namespace Go.MC
theorem lim_eq : lim = 140737488355328 := rfl
theorem wr {n : Int} (h1 : -9223372036854775808 ≤ n) (h2 : n ≤ 9223372036854775807) : IntKind.i64.wrap n = n := by
  rw [IntKind.wrap_i64]; omega
theorem wrS {i : Nat} (h : i ≤ 1000000000000000000) : IntKind.i64.wrap ((i : Int) + 1) = ((i + 1 : Nat) : Int) := by
  rw [wr (by omega) (by omega)]; omega
theorem wrP {i : Nat} (h : i ≤ 1000000000000000000) (h0 : 0 < i) : IntKind.i64.wrap ((i : Int) - 1) = ((i - 1 : Nat) : Int) := by
  rw [wr (by omega) (by omega)]; omega
theorem ob_eq {α ρ : Type} {o : Option α} {a d : α} {B : α → Option ρ} (h : o = some a) : ob o d B = B a := by rw [h]; rfl
theorem dlt {i n : Nat} (h : i < n) : decide ((i : Int) < (n : Int)) = true := decide_eq_true (by omega)
theorem dnlt (n : Nat) : decide ((n : Int) < (n : Int)) = false := decide_eq_false (by omega)
theorem dge (i : Nat) : decide ((0 : Int) ≤ (i : Int)) = true := decide_eq_true (by omega)
theorem gAt {α : Type} {l : List α} {i : Nat} (h : i < l.length) (d : α) : l.getD (Int.toNat (i : Int)) d = l[i] := by
  rw [Int.toNat_natCast, List.getD_eq_getElem?_getD, List.getElem?_eq_getElem h]; rfl
theorem gAt' {α : Type} {l : List α} {i : Nat} (d : α) : l.getD (Int.toNat (i : Int)) d = l.getD i d := by
  rw [Int.toNat_natCast]
theorem dgt0 (i : Nat) : decide ((i : Int) > 0) = !(i == 0) := by
  cases i <;> simp
def allI {α : Type} (p : Nat → α → Bool) : Nat → List α → Bool
  | _, [] => true
  | i, x :: xs => p i x && allI p (i + 1) xs
theorem allI_iff {α : Type} {p : Nat → α → Bool} : ∀ {l : List α} {i : Nat}, allI p i l = true ↔ ∀ j x, l[j]? = some x → p (i + j) x = true
  | [], i => by simp [allI]
  | x :: xs, i => by
    simp only [allI, Bool.and_eq_true, allI_iff (l := xs)]
    constructor
    · rintro ⟨h1, h2⟩ j y hj
      cases j with
      | zero => simp at hj; subst hj; exact h1
      | succ j =>
        have := h2 j y (by simpa using hj)
        rwa [show i + 1 + j = i + (j + 1) by omega] at this
    · intro h
      refine ⟨h 0 x rfl, fun j y hj => ?_⟩
      have := h (j + 1) y (by simpa using hj)
      rwa [show i + (j + 1) = i + 1 + j by omega] at this
theorem allI_all {α : Type} {p : α → Bool} : ∀ {l : List α} {i : Nat}, allI (fun _ x => p x) i l = l.all p
  | [], _ => rfl
  | x :: xs, i => by simp only [allI, List.all_cons, allI_all]
def outW {σ ρ : Type} (fin : σ → Option ρ) : σ ⊕ Option ρ → Option ρ
  | .inl s => fin s
  | .inr r => r
theorem lp_walk {α σ ρ F : Type} (l : List α) (ap : F → Nat → σ → Option ρ) (z : F) (rd : F → F) (f : Nat → σ → α → σ ⊕ Option ρ) (fin : σ → Option ρ) (Inv : Nat → σ → Prop)
    (hstep : ∀ (g : F) (i : Nat) (st : σ) (h : i < l.length), Inv i st → ap (rd g) i st = outW (fun st' => ap g (i + 1) st') (f i st l[i]) ∧ ∀ st', f i st l[i] = .inl st' → Inv (i + 1) st')
    (hend : ∀ (g : F) (st : σ), Inv l.length st → ap (rd g) l.length st = fin st) (N : Nat) (hN : l.length < N) (st : σ) (h0 : Inv 0 st) :
    ap (lp z rd N) 0 st = outW fin (walkL f 0 l st) := by
  suffices H : ∀ (m i n : Nat) (st : σ), l.length - i = m → i ≤ l.length → m < n → Inv i st → ap (lp z rd n) i st = outW fin (walkL f i (l.drop i) st) by
    have := H l.length 0 N st (by omega) (by omega) hN h0
    rwa [List.drop_zero] at this
  intro m
  induction m with
  | zero =>
    intro i n st h1 h2 h3 h4
    obtain ⟨n, rfl⟩ : ∃ j, n = j + 1 := ⟨n - 1, by omega⟩
    have hi : i = l.length := by omega
    subst hi
    rw [List.drop_length]
    exact hend _ st h4
  | succ m ih =>
    intro i n st h1 h2 h3 h4
    obtain ⟨n, rfl⟩ : ∃ j, n = j + 1 := ⟨n - 1, by omega⟩
    have hlt : i < l.length := by omega
    obtain ⟨h5, h6⟩ := hstep (lp z rd n) i st hlt h4
    rw [List.drop_eq_getElem_cons hlt]
    simp only [walkL]
    refine h5.trans ?_
    cases hf : f i st l[i] with
    | inl st' => exact ih (i + 1) n st' (by omega) (by omega) (by omega) (h6 st' hf)
    | inr r => rfl
theorem lp_allI {α ρ : Type} (l : List α) (rd : (Int → Option ρ) → Int → Option ρ) (p : Nat → α → Bool) (r fin : Option ρ)
    (hstep : ∀ (g : Int → Option ρ) (i : Nat) (h : i < l.length), rd g (i : Int) = bif p i l[i] then g ((i + 1 : Nat) : Int) else r)
    (hend : ∀ (g : Int → Option ρ), rd g (l.length : Int) = fin) (N : Nat) (hN : l.length < N) : lp (fun _ => none) rd N 0 = bif allI p 0 l then fin else r := by
  have := lp_walk l (fun (g : Int → Option ρ) i (_ : Unit) => g (i : Int)) (fun _ => none) rd (fun i _ x => bif p i x then .inl () else .inr r) (fun _ => fin) (fun _ _ => True)
    (fun g i st h _ => ⟨by
      rw [hstep g i h]
      cases p i l[i] <;> rfl, fun _ _ => trivial⟩) (fun g _ _ => hend g) N hN () trivial
  refine this.trans ?_
  have : ∀ (l : List α) i, outW (fun _ => fin) (walkL (fun i (_ : Unit) x => bif p i x then Sum.inl () else Sum.inr r) i l ()) = bif allI p i l then fin else r := by
    intro l
    induction l with
    | nil => intro i; rfl
    | cons x xs ih =>
      intro i
      simp only [walkL, allI]
      cases p i x with
      | true => simpa using ih (i + 1)
      | false => rfl
  exact this l 0
end Go.MC
namespace Go.MC
open Go.MC.F
def smT (s : Txt) : Prop := s.length ≤ 1048576
def smL (l : List Txt) : Prop := l.length ≤ 1048576 ∧ ∀ x ∈ l, smT x
def smU (u : Use) : Prop := smT u.1
def smW (w : Want) : Prop := smL w.2.2.1 ∧ (w.2.2.2.1.length ≤ 1048576 ∧ ∀ u ∈ w.2.2.2.1, smU u) ∧ smL w.2.2.2.2.1 ∧ smL w.2.2.2.2.2
def inB (n lo hi : Int) : Bool := decide (n ≥ lo) && decide (n ≤ hi)
theorem l1In {N : Nat} (n lo hi : Int) : f_118 N n lo hi = some (inB n lo hi) := by
  unfold f_118 inB
  cases decide (n ≥ lo) <;> rfl
theorem implIn {N : Nat} (n lo hi : Int) : f_120 N n lo hi = some (inB n lo hi) := by
  unfold f_120 inB
  cases decide (n ≥ lo) <;> rfl
def nmB (b : UInt8) : Bool := (decide ((b.toNat : Int) ≥ 97) && decide ((b.toNat : Int) ≤ 122)) || ((decide ((b.toNat : Int) ≥ 48) && decide ((b.toNat : Int) ≤ 57)) || ((b.toNat : Int) == 45))
def nmOk (s : Txt) : Bool := inB s.length 1 8 && s.all nmB
theorem l1NameOk {N : Nat} (hN : lim < N) (s : Txt) : f_59 N s = some (nmOk s) := by
  have hlim := lim_eq
  unfold f_59 f_59b nmOk
  rw [ob_eq (l1In _ _ _)]
  cases hb : inB s.length 1 8 with
  | false => rfl
  | true =>
    have hl : s.length ≤ 8 := by
      simp only [inB, Bool.and_eq_true, decide_eq_true_eq] at hb
      omega
    refine (lp_allI s _ (fun _ x => nmB x) (some false) (some true) (fun g i hi => ?_) (fun g => ?_) N (by omega)).trans ?_
    · unfold f_59_0r
      simp only [dlt hi, dge, gAt hi, cond_true, wrS (show i ≤ 1000000000000000000 by omega), nmB]
      generalize decide ((s[i].toNat : Int) ≥ 97) = a1
      generalize decide ((s[i].toNat : Int) ≤ 122) = a2
      generalize decide ((s[i].toNat : Int) ≥ 48) = a3
      generalize decide ((s[i].toNat : Int) ≤ 57) = a4
      generalize ((s[i].toNat : Int) == 45) = a5
      cases a1 <;> cases a2 <;> cases a3 <;> cases a4 <;> cases a5 <;> rfl
    · unfold f_59_0r
      rw [dnlt]; rfl
    · rw [allI_all]
      cases s.all nmB <;> rfl
theorem implName {N : Nat} (hN : lim < N) (s : Txt) : f_114 N s = some (nmOk s) := by
  have hlim := lim_eq
  unfold f_114 f_114b nmOk
  rw [ob_eq (implIn _ _ _)]
  cases hb : inB s.length 1 8 with
  | false => rfl
  | true =>
    have hl : s.length ≤ 8 := by
      simp only [inB, Bool.and_eq_true, decide_eq_true_eq] at hb
      omega
    refine (lp_allI s _ (fun _ x => nmB x) (some false) (some true) (fun g i hi => ?_) (fun g => ?_) N (by omega)).trans ?_
    · unfold f_114_0r
      simp only [dlt hi, dge, gAt hi, cond_true, wrS (show i ≤ 1000000000000000000 by omega), nmB]
      generalize decide ((s[i].toNat : Int) ≥ 97) = a1
      generalize decide ((s[i].toNat : Int) ≤ 122) = a2
      generalize decide ((s[i].toNat : Int) ≥ 48) = a3
      generalize decide ((s[i].toNat : Int) ≤ 57) = a4
      generalize ((s[i].toNat : Int) == 45) = a5
      cases a1 <;> cases a2 <;> cases a3 <;> cases a4 <;> cases a5 <;> rfl
    · unfold f_114_0r
      rw [dnlt]; rfl
    · rw [allI_all]
      cases s.all nmB <;> rfl
def ascI (l : List Txt) (i : Nat) (x : Txt) : Bool := i == 0 || Op.bytesLess (l.getD (i - 1) []) x
def nmsOk (l : List Txt) (most : Int) : Bool := !decide ((l.length : Int) > most) && allI (fun i x => nmOk x && ascI l i x) 0 l
theorem l1NamesOk {N : Nat} (hN : lim < N) {l : List Txt} (hl : l.length ≤ lim) (most : Int) : f_50 N l most = some (nmsOk l most) := by
  have hlim := lim_eq
  unfold f_50 f_50b nmsOk
  cases hb : decide ((l.length : Int) > most) with
  | true => rfl
  | false =>
    refine (lp_allI l _ (fun i x => nmOk x && ascI l i x) (some false) (some true) (fun g i hi => ?_) (fun g => ?_) N (by omega)).trans ?_
    · unfold f_50_0r ascI
      simp only [dlt hi, dge, gAt hi, cond_true, wrS (show i ≤ 1000000000000000000 by omega), dgt0]
      rw [ob_eq (l1NameOk hN _)]
      cases nmOk l[i] with
      | false => rfl
      | true =>
        cases h0 : i == 0 with
        | true => simp
        | false =>
          have h0' : 0 < i := by simp at h0; omega
          simp only [Bool.not_true, Bool.not_false, cond_true, cond_false, wrP (show i ≤ 1000000000000000000 by omega) h0', dge, dlt (show i - 1 < l.length by omega), gAt', Bool.false_or, Bool.true_and]
          cases Op.bytesLess (l.getD (i - 1) []) l[i] <;> rfl
    · unfold f_50_0r
      rw [dnlt]; rfl
    · cases allI (fun i x => nmOk x && ascI l i x) 0 l <;> rfl
theorem implNames {N : Nat} (hN : lim < N) {l : List Txt} (hl : l.length ≤ lim) (most : Int) : f_98 N l most = some (nmsOk l most) := by
  have hlim := lim_eq
  unfold f_98 f_98b nmsOk
  cases hb : decide ((l.length : Int) > most) with
  | true => rfl
  | false =>
    refine (lp_allI l _ (fun i x => nmOk x && ascI l i x) (some false) (some true) (fun g i hi => ?_) (fun g => ?_) N (by omega)).trans ?_
    · unfold f_98_0r ascI
      simp only [dlt hi, dge, gAt hi, cond_true, wrS (show i ≤ 1000000000000000000 by omega), dgt0]
      rw [ob_eq (implName hN _)]
      cases nmOk l[i] with
      | false => rfl
      | true =>
        cases h0 : i == 0 with
        | true => simp
        | false =>
          have h0' : 0 < i := by simp at h0; omega
          simp only [Bool.not_true, Bool.not_false, cond_true, cond_false, wrP (show i ≤ 1000000000000000000 by omega) h0', dge, dlt (show i - 1 < l.length by omega), gAt', Bool.false_or, Bool.true_and]
          cases Op.bytesLess (l.getD (i - 1) []) l[i] <;> rfl
    · unfold f_98_0r
      rw [dnlt]; rfl
    · cases allI (fun i x => nmOk x && ascI l i x) 0 l <;> rfl
theorem l1Has {N : Nat} (hN : lim < N) {l : List Txt} (hl : l.length ≤ lim) (s : Txt) : f_109 N l s = some (l.contains s) := by
  have hlim := lim_eq
  unfold f_109 f_109b
  refine (lp_allI l _ (fun _ x => !(x == s)) (some true) (some false) (fun g i hi => ?_) (fun g => ?_) N (by omega)).trans ?_
  · unfold f_109_0r
    simp only [dlt hi, dge, gAt hi, cond_true, wrS (show i ≤ 1000000000000000000 by omega)]
    cases l[i] == s <;> rfl
  · unfold f_109_0r
    rw [dnlt]; rfl
  · rw [allI_all, List.contains_eq_any_beq]
    have : l.all (fun x => !(x == s)) = !(l.any fun a => s == a) := by
      rw [List.not_any_eq_all_not]
      congr 1; funext x
      rw [Bool.beq_comm]
    rw [this]
    cases l.any fun a => s == a <;> rfl
theorem l1Share {N : Nat} (hN : lim < N) {a b : List Txt} (ha : a.length ≤ lim) (hb : b.length ≤ lim) : f_72 N a b = some (a.any fun x => b.contains x) := by
  have hlim := lim_eq
  unfold f_72 f_72b
  refine (lp_allI a _ (fun _ x => !(b.contains x)) (some true) (some false) (fun g i hi => ?_) (fun g => ?_) N (by omega)).trans ?_
  · unfold f_72_0r
    simp only [dlt hi, dge, gAt hi, cond_true, wrS (show i ≤ 1000000000000000000 by omega)]
    rw [ob_eq (l1Has hN hb _)]
    cases b.contains a[i] <;> rfl
  · unfold f_72_0r
    rw [dnlt]; rfl
  · rw [allI_all]
    have : a.all (fun x => !(b.contains x)) = !(a.any fun x => b.contains x) := by rw [List.not_any_eq_all_not]
    rw [this]
    cases a.any fun x => b.contains x <;> rfl
def idxB {α : Type} (p : α → Bool) : Nat → List α → Int
  | _, [] => -1
  | i, x :: xs => bif p x then (i : Int) else idxB p (i + 1) xs
theorem idxB_nonneg {α : Type} (p : α → Bool) : ∀ (l : List α) (i : Nat), decide (idxB p i l ≥ 0) = l.any p
  | [], _ => rfl
  | x :: xs, i => by
    simp only [idxB, List.any_cons]
    by_cases h : p x = true
    · simp [h]
    · simpa [h] using idxB_nonneg p xs (i + 1)
theorem lp_idx {α : Type} (l : List α) (rd : (Int → Option Int) → Int → Option Int) (p : α → Bool)
    (hstep : ∀ (g : Int → Option Int) (i : Nat) (h : i < l.length), rd g (i : Int) = bif p l[i] then some (i : Int) else g ((i + 1 : Nat) : Int))
    (hend : ∀ (g : Int → Option Int), rd g (l.length : Int) = some (-1)) (N : Nat) (hN : l.length < N) : lp (fun _ => none) rd N 0 = some (idxB p 0 l) := by
  have := lp_walk l (fun (g : Int → Option Int) i (_ : Unit) => g (i : Int)) (fun _ => none) rd (fun i _ x => bif p x then .inr (some (i : Int)) else .inl ()) (fun _ => some (-1)) (fun _ _ => True)
    (fun g i st h _ => ⟨by
      rw [hstep g i h]
      cases p l[i] <;> rfl, fun _ _ => trivial⟩) (fun g _ _ => hend g) N hN () trivial
  refine this.trans ?_
  have : ∀ (l : List α) i, outW (fun _ => some (-1)) (walkL (fun i (_ : Unit) x => bif p x then Sum.inr (some (i : Int)) else Sum.inl ()) i l ()) = some (idxB p i l) := by
    intro l
    induction l with
    | nil => intro i; rfl
    | cons x xs ih =>
      intro i
      simp only [walkL, idxB]
      cases p x with
      | false => simpa using ih (i + 1)
      | true => rfl
  exact this l 0
theorem slicesIndex {N : Nat} (hN : lim < N) {l : List Txt} (hl : l.length ≤ lim) (s : Txt) : f_27 N l s = some (idxB (fun x => s == x) 0 l) := by
  have hlim := lim_eq
  unfold f_27 f_27b
  refine lp_idx l _ (fun x => s == x) (fun g i hi => ?_) (fun g => ?_) N (by omega)
  · unfold f_27_0r
    simp only [dlt hi, dge, gAt hi, cond_true, wrS (show i ≤ 1000000000000000000 by omega)]
  · unfold f_27_0r
    rw [dnlt]; rfl
theorem slicesContains {N : Nat} (hN : lim < N) {l : List Txt} (hl : l.length ≤ lim) (s : Txt) : f_15 N l s = some (l.contains s) := by
  unfold f_15
  rw [ob_eq (slicesIndex hN hl s), idxB_nonneg, List.contains_eq_any_beq]
theorem lp_idxC {α γ : Type} (l : List α) (rd : (Int → γ → Option (Int × γ)) → Int → γ → Option (Int × γ)) (p : α → Bool) (c : γ)
    (hstep : ∀ (g : Int → γ → Option (Int × γ)) (i : Nat) (h : i < l.length), rd g (i : Int) c = bif p l[i] then some ((i : Int), c) else g ((i + 1 : Nat) : Int) c)
    (hend : ∀ (g : Int → γ → Option (Int × γ)), rd g (l.length : Int) c = some (-1, c)) (N : Nat) (hN : l.length < N) : lp (fun _ _ => none) rd N 0 c = some (idxB p 0 l, c) := by
  have := lp_walk l (fun (g : Int → γ → Option (Int × γ)) i (d : γ) => g (i : Int) d) (fun _ _ => none) rd (fun i d x => bif p x then .inr (some ((i : Int), d)) else .inl d) (fun d => some (-1, d)) (fun _ d => d = c)
    (fun g i st h hi => ⟨by
      subst hi
      rw [hstep g i h]
      cases p l[i] <;> rfl, fun st' hs => by
      subst hi
      cases hp : p l[i] with
      | true => rw [hp] at hs; cases hs
      | false => rw [hp] at hs; cases hs; rfl⟩) (fun g d hd => by subst hd; exact hend g) N hN c rfl
  refine this.trans ?_
  have : ∀ (l : List α) i, outW (fun d => some (-1, d)) (walkL (fun i (d : γ) x => bif p x then Sum.inr (some ((i : Int), d)) else Sum.inl d) i l c) = some (idxB p i l, c) := by
    intro l
    induction l with
    | nil => intro i; rfl
    | cons x xs ih =>
      intro i
      simp only [walkL, idxB]
      cases p x with
      | false => simpa using ih (i + 1)
      | true => rfl
  exact this l 0
theorem implCommon {N : Nat} (hN : lim < N) {a b : List Txt} (ha : a.length ≤ lim) (hb : b.length ≤ lim) : f_80 N a b = some (a.any fun x => b.contains x) := by
  have hlim := lim_eq
  unfold f_80 f_9
  have h : f_12 N a b = some (idxB (fun x => b.contains x) 0 a, b) := by
    unfold f_12 f_12b
    refine lp_idxC a _ (fun x => b.contains x) b (fun g i hi => ?_) (fun g => ?_) N (by omega)
    · unfold f_12_0r
      simp only [dlt hi, dge, gAt hi, cond_true, wrS (show i ≤ 1000000000000000000 by omega)]
      have h1 : f_45 N a[i] b = some (b.contains a[i], b) := by
        unfold f_45
        rw [ob_eq (slicesContains hN hb _)]
      rw [ob_eq h1]
    · unfold f_12_0r
      rw [dnlt]; rfl
  rw [ob_eq (a := (a.any fun x => b.contains x, b)) (by rw [ob_eq h, idxB_nonneg])]
end Go.MC

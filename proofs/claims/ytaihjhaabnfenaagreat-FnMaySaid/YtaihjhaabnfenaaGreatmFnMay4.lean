/- Part 4 of the texts of the claim FnMay: an interpreter of the translated code over data, proved sound; the contracts of the functions; the same in plain words. -/
import Derived.Test.YtaihjhaabnfenaaGreatmFnMay2
import Derived.Test.YtaihjhaabnfenaaGreatmFnMay3
set_option linter.unusedVariables false
set_option maxRecDepth 100000
namespace Go.MC
open Go.Proofs Go.MC.F
noncomputable section
def libL : List (Nat × LibK) := []
theorem libs_ok : LibsOK Tryz.prog libL := trivial
def an_spec_l1Open : Nat → Option Ann := fun _ => none
noncomputable def fi_spec_l1Open : FI := ⟨Tryz.f50.results.toList, bodyOf Tryz.f50.body, Tryz.f50.ntmps, an_spec_l1Open⟩
theorem ok_spec_l1Open : FnOK Tryz.prog 50 fi_spec_l1Open := ⟨⟨Tryz.f50, Tryz.func50, by kernel_rfl, rfl, rfl, by kernel_rfl⟩, by kernel_rfl⟩
def an_f_1g : Nat → Option Ann := fun _ => none
noncomputable def fi_f_1g : FI := ⟨Tryz.f53.results.toList, bodyOf Tryz.f53.body, Tryz.f53.ntmps, an_f_1g⟩
theorem ok_f_1g : FnOK Tryz.prog 53 fi_f_1g := ⟨⟨Tryz.f53, Tryz.func53, by kernel_rfl, rfl, rfl, by kernel_rfl⟩, by kernel_rfl⟩
def phiL_f_1g (N : Nat) : List (Nat × Summ) := []
def sg_f_1g : Summ := sigOf [.bx (.pair (.slice tByte) tInt), .d tInt false] true [.d tInt false]
theorem run_f_1g (N : Nat) (r : (List (Int)) × (Int)) (n : Int) : runST (ofDs [tInt, .pair (.slice tByte) tInt]) (tabOf tabL) (tabS (phiL_f_1g N)) inl0 N fi_f_1g sg_f_1g [⟨.pair (.slice tByte) tInt, r⟩, ⟨tInt, n⟩] = F.f_1g N r n := by kernel_rfl
def sm_f_1g (N : Nat) : Summ := summOf [.bx (.pair (.slice tByte) tInt), .d tInt false] true [.d tInt false] [tInt, .pair (.slice tByte) tInt] (F.f_1g N)
theorem con_f_1g (N : Nat) : Contract Tryz.prog 53 (sm_f_1g N) := con_of (N := N) tabOK mixed (callOK_list (l := phiL_f_1g N) trivial) (inl0_ok _) ok_f_1g (by decide) fun r n => run_f_1g N r n
def an_f_20 : Nat → Option Ann := fun _ => none
noncomputable def fi_f_20 : FI := ⟨Tryz.f128.results.toList, bodyOf Tryz.f128.body, Tryz.f128.ntmps, an_f_20⟩
theorem ok_f_20 : FnOK Tryz.prog 128 fi_f_20 := ⟨⟨Tryz.f128, Tryz.func128, by kernel_rfl, rfl, rfl, by kernel_rfl⟩, by kernel_rfl⟩
def phiL_f_20 (N : Nat) : List (Nat × Summ) := [(53, sm_f_1g N)]
def sg_f_20 : Summ := sigOf [.bx (.pair (.slice tByte) tInt), .d tTxts false] true [.d (.str) false]
theorem run_f_20 (N : Nat) (r : (List (Int)) × (Int)) (list : List (List UInt8)) : runST (ofDs [.str, .pair (.slice tByte) tInt]) (tabOf tabL) (tabS (phiL_f_20 N)) inl0 N fi_f_20 sg_f_20 [⟨.pair (.slice tByte) tInt, r⟩, ⟨tTxts, list⟩] = F.f_20 N r list := by kernel_rfl
def sm_f_20 (N : Nat) : Summ := summOf [.bx (.pair (.slice tByte) tInt), .d tTxts false] true [.d (.str) false] [.str, .pair (.slice tByte) tInt] (F.f_20 N)
theorem con_f_20 (N : Nat) : Contract Tryz.prog 128 (sm_f_20 N) := con_of (N := N) tabOK mixed (callOK_list (l := phiL_f_20 N) (allc rfl (con_f_1g N) trivial)) (inl0_ok _) ok_f_20 (by decide) fun r list => run_f_20 N r list
def an_f_2k : Nat → Option Ann
  | 0 => some ⟨{ fr := [(0, Dir.keep), (2, Dir.keep), (3, Dir.keep), (4, Dir.own 700004 9 Ty.str), (5, Dir.keep)], bx := [(500000, [Dir.keep, Dir.keep]), (2, [Dir.keep, Dir.keep, Dir.keep, Dir.keep, Dir.keep]), (3, [Dir.frz tFoe, Dir.dow 1000301 34 [9] tSpot, Dir.keep, Dir.keep, Dir.keep])], os := [] }, [(0, { fr := [(0, Dir.keep), (2, Dir.keep), (3, Dir.keep)], bx := [(500000, [Dir.keep, Dir.keep]), (2, [Dir.keep, Dir.keep, Dir.keep, Dir.keep, Dir.keep]), (3, [Dir.frz tFoe, Dir.dow 1000301 34 [9] tSpot, Dir.keep, Dir.keep, Dir.keep])], os := [] })], ⟨[], [], []⟩⟩
  | 2 => some ⟨{ fr := [(0, Dir.keep), (2, Dir.keep), (3, Dir.keep), (7, Dir.own 700007 9 Ty.str), (8, Dir.keep)], bx := [(500000, [Dir.keep, Dir.keep]), (2, [Dir.keep, Dir.keep, Dir.keep, Dir.keep, Dir.keep]), (3, [Dir.keep, Dir.dow 1000301 34 [9] tSpot, Dir.own 1000302 9 Ty.str, Dir.keep, Dir.keep])], os := [] }, [(2, { fr := [(2, Dir.keep), (3, Dir.keep)], bx := [(500000, [Dir.keep, Dir.keep]), (2, [Dir.keep, Dir.keep, Dir.keep, Dir.keep, Dir.keep]), (3, [Dir.keep, Dir.dow 1000301 34 [9] tSpot, Dir.own 1000302 9 Ty.str, Dir.keep, Dir.keep])], os := [] })], ⟨[], [], []⟩⟩
  | _ => none
noncomputable def fi_f_2k : FI := ⟨Tryz.f51.results.toList, bodyOf Tryz.f51.body, Tryz.f51.ntmps, an_f_2k⟩
theorem ok_f_2k : FnOK Tryz.prog 51 fi_f_2k := ⟨⟨Tryz.f51, Tryz.func51, by kernel_rfl, rfl, rfl, by kernel_rfl⟩, by kernel_rfl⟩
def phiL_f_2k (N : Nat) : List (Nat × Summ) := [(53, sm_f_1g N), (128, sm_f_20 N)]
def sg_f_2k : Summ := sigOf [.bx (.pair (.slice tByte) tInt)] true [.d tBook true]
def S_f_2k_2 (t2c4 : Int) (b3c0 : List Foe) (b3c4 : Int) (b3c1a : List Spot) (valves7a : List Txt) (i8 : Int) (rpc0_1 : List Int) (rpc1_1 : Int) (b3c2a : List Txt) : St := { fr := [(0, AV.w (V1.one (C.pb 500000 0))), (2, AV.w (V1.one (C.pb 2 0))), (3, AV.w (V1.one (C.pb 3 0))), (7, AV.w (V1.one (C.arr 700007))), (8, .w (.one (.v tInt i8)))], H := [(500000, Ob.box [C.v tByte.slice rpc0_1, C.v tInt rpc1_1]), (2, Ob.box [C.emp, C.emp, C.emp, C.emp, C.v tInt t2c4]), (3, Ob.box [C.v tFoe.slice b3c0, C.arr 1000301, C.arr 1000302, C.emp, C.v tInt b3c4]), (700007, Ob.arr 9 Ty.str valves7a), (1000301, Ob.arr 34 tSpot b3c1a (Dp.yes [9])), (1000302, Ob.arr 9 Ty.str b3c2a)] }
def S_f_2k_0 (t2c4 : Int) (b3c0 : List Foe) (b3c4 : Int) (names4a : List Txt) (i5 : Int) (rpc0 : List Int) (rpc1 : Int) (b3c1a : List Spot) : St := { fr := [(0, AV.w (V1.one (C.pb 500000 0))), (2, AV.w (V1.one (C.pb 2 0))), (3, AV.w (V1.one (C.pb 3 0))), (4, AV.w (V1.one (C.arr 700004))), (5, .w (.one (.v tInt i5)))], H := [(500000, Ob.box [C.v tByte.slice rpc0, C.v tInt rpc1]), (2, Ob.box [C.emp, C.emp, C.emp, C.emp, C.v tInt t2c4]), (3, Ob.box [C.v tFoe.slice b3c0, C.arr 1000301, C.emp, C.emp, C.v tInt b3c4]), (700004, Ob.arr 9 Ty.str names4a), (1000301, Ob.arr 34 tSpot b3c1a (Dp.yes [9]))] }
noncomputable def E_f_2k (N : Nat) : Env := envOf (tabOf tabL) (tabS (phiL_f_2k N)) inl0 N fi_f_2k [500000]
noncomputable def K_f_2k := (kFun (tabOf tabL) fi_f_2k.res (kT (ofDs [tBook, .pair (.slice tByte) tInt]) sg_f_2k [(500000, .bx (.pair (.slice tByte) tInt))]))
noncomputable def its_f_2k_2 (N : Nat) (n : Nat) : St → Option (Book × Rdr) := fun S' => iter [500000] (annAt fi_f_2k 2) (code (E_f_2k N) (lpIn fi_f_2k.body 0 2) 2) n S' (contOf (E_f_2k N) fi_f_2k.body 0 2 K_f_2k)
noncomputable def it_f_2k_2 (N : Nat) (t2c4 : Int) (b3c0 : List Foe) (b3c4 : Int) (b3c1a : List Spot) (valves7a : List Txt) (n : Nat) : Int → (List Int) → Int → (List Txt) → Option (Book × Rdr) := fun i8 rpc0_1 rpc1_1 b3c2a => its_f_2k_2 N n (S_f_2k_2 t2c4 b3c0 b3c4 b3c1a valves7a i8 rpc0_1 rpc1_1 b3c2a)
theorem fe_f_2k_2 (N : Nat) : it_f_2k_2 N = f_2k_2 N := funext fun t2c4 => funext fun b3c0 => funext fun b3c4 => funext fun b3c1a => funext fun valves7a => funext (lp_all (by kernel_rfl) fun n => by
    show _ = f_2k_2r N t2c4 b3c0 b3c4 b3c1a valves7a (it_f_2k_2 N t2c4 b3c0 b3c4 b3c1a valves7a n)
    kernel_rfl)
noncomputable def its_f_2k_0 (N : Nat) (n : Nat) : St → Option (Book × Rdr) := fun S' => iter [500000] (annAt fi_f_2k 0) (code (E_f_2k N) (lpIn fi_f_2k.body 0 0) 0) n S' (contOf (E_f_2k N) fi_f_2k.body 0 0 K_f_2k)
noncomputable def it_f_2k_0 (N : Nat) (t2c4 : Int) (b3c0 : List Foe) (b3c4 : Int) (names4a : List Txt) (n : Nat) : Int → (List Int) → Int → (List Spot) → Option (Book × Rdr) := fun i5 rpc0 rpc1 b3c1a => its_f_2k_0 N n (S_f_2k_0 t2c4 b3c0 b3c4 names4a i5 rpc0 rpc1 b3c1a)
theorem fe_f_2k_0 (N : Nat) : it_f_2k_0 N = f_2k_0 N := funext fun t2c4 => funext fun b3c0 => funext fun b3c4 => funext fun names4a => funext (lp_all (by kernel_rfl) fun n => by
    show _ = f_2k_0r N (f_2k_2 N) t2c4 b3c0 b3c4 names4a (it_f_2k_0 N t2c4 b3c0 b3c4 names4a n)
    rw [show f_2k_2 N = it_f_2k_2 N from (fe_f_2k_2 N).symm]
    kernel_rfl)
theorem run_f_2k (N : Nat) (r : (List (Int)) × (Int)) : runST (ofDs [tBook, .pair (.slice tByte) tInt]) (tabOf tabL) (tabS (phiL_f_2k N)) inl0 N fi_f_2k sg_f_2k [⟨.pair (.slice tByte) tInt, r⟩] = F.f_2k N r := by
    show _ = F.f_2kb N (F.f_2k_0 N) r
    rw [← fe_f_2k_0 N]
    kernel_rfl
def sm_f_2k (N : Nat) : Summ := summOf [.bx (.pair (.slice tByte) tInt)] true [.d tBook true] [tBook, .pair (.slice tByte) tInt] (F.f_2k N)
theorem con_f_2k (N : Nat) : Contract Tryz.prog 51 (sm_f_2k N) := con_of (N := N) tabOK mixed (callOK_list (l := phiL_f_2k N) (allc rfl (con_f_1g N) (allc rfl (con_f_20 N) trivial))) (inl0_ok _) ok_f_2k (by decide) fun r => run_f_2k N r
def an_f_38 : Nat → Option Ann := fun _ => none
noncomputable def fi_f_38 : FI := ⟨Tryz.f103.results.toList, bodyOf Tryz.f103.body, Tryz.f103.ntmps, an_f_38⟩
theorem ok_f_38 : FnOK Tryz.prog 103 fi_f_38 := ⟨⟨Tryz.f103, Tryz.func103, by kernel_rfl, rfl, rfl, by kernel_rfl⟩, by kernel_rfl⟩
def phiL_f_38 (N : Nat) : List (Nat × Summ) := [(53, sm_f_1g N)]
def sg_f_38 : Summ := sigOf [.bx (.pair (.slice tByte) tInt), .d tBook true] true [.d tInt false]
def smG_f_38_f_1g (g_f_1g : ((List (Int)) × (Int)) → (Int) → Option ((Int) × ((List (Int)) × (Int)))) : Summ := summOf [.bx (.pair (.slice tByte) tInt), .d tInt false] true [.d tInt false] [tInt, .pair (.slice tByte) tInt] g_f_1g
def phiG_f_38 (g_f_1g : ((List (Int)) × (Int)) → (Int) → Option ((Int) × ((List (Int)) × (Int)))) : List (Nat × Summ) := [(53, smG_f_38_f_1g g_f_1g)]
theorem runG_f_38 (N : Nat) (g_f_1g : ((List (Int)) × (Int)) → (Int) → Option ((Int) × ((List (Int)) × (Int)))) (r : (List (Int)) × (Int)) (b : (List ((List UInt8) × (List UInt8))) × ((List ((List UInt8) × ((Int) × ((Int) × ((Int) × (List Txt)))))) × ((List Txt) × ((List (((Int) × ((Int) × ((List Txt) × ((List ((List UInt8) × ((Int) × (Int)))) × ((List Txt) × (List Txt)))))) × (Bool))) × (Int))))) : runST (ofDs [tInt, .pair (.slice tByte) tInt]) (tabOf tabL) (tabS (phiG_f_38 g_f_1g)) inl0 N fi_f_38 sg_f_38 [⟨.pair (.slice tByte) tInt, r⟩, ⟨tBook, b⟩] = F.f_38G g_f_1g r b := by kernel_rfl
theorem run_f_38 (N : Nat) (r : (List (Int)) × (Int)) (b : (List ((List UInt8) × (List UInt8))) × ((List ((List UInt8) × ((Int) × ((Int) × ((Int) × (List Txt)))))) × ((List Txt) × ((List (((Int) × ((Int) × ((List Txt) × ((List ((List UInt8) × ((Int) × (Int)))) × ((List Txt) × (List Txt)))))) × (Bool))) × (Int))))) : runST (ofDs [tInt, .pair (.slice tByte) tInt]) (tabOf tabL) (tabS (phiL_f_38 N)) inl0 N fi_f_38 sg_f_38 [⟨.pair (.slice tByte) tInt, r⟩, ⟨tBook, b⟩] = F.f_38 N r b := runG_f_38 N (F.f_1g N) r b
def sm_f_38 (N : Nat) : Summ := summOf [.bx (.pair (.slice tByte) tInt), .d tBook true] true [.d tInt false] [tInt, .pair (.slice tByte) tInt] (F.f_38 N)
theorem con_f_38 (N : Nat) : Contract Tryz.prog 103 (sm_f_38 N) := con_of (N := N) tabOK mixed (callOK_list (l := phiL_f_38 N) (allc rfl (con_f_1g N) trivial)) (inl0_ok _) ok_f_38 (by decide) fun r b => run_f_38 N r b
def an_f_2h : Nat → Option Ann
  | 0 => some ⟨{ fr := [(1, Dir.keep), (2, Dir.keep), (5, Dir.keep)], bx := [(2, [Dir.keep, Dir.keep, Dir.keep, Dir.keep, Dir.keep])], os := [] }, [(0, { fr := [], bx := [], os := [] })], { fr := [(4, Dir.keep)], bx := [], os := [] }⟩
  | _ => none
noncomputable def fi_f_2h : FI := ⟨Tryz.f58.results.toList, bodyOf Tryz.f58.body, Tryz.f58.ntmps, an_f_2h⟩
theorem ok_f_2h : FnOK Tryz.prog 58 fi_f_2h := ⟨⟨Tryz.f58, Tryz.func58, by kernel_rfl, rfl, rfl, by kernel_rfl⟩, by kernel_rfl⟩
def phiL_f_2h (N : Nat) : List (Nat × Summ) := []
def sg_f_2h : Summ := sigOf [.d tBook true, .d tInt false] false [.d tInt false]
def S_f_2h_0 (b : Book) (number : Int) (i5 : Int) : St := { fr := [(1, .w (.one (.v tInt number))), (2, AV.w (V1.one (C.pb 2 0))), (5, .w (.one (.v tInt i5)))], H := [(2, Ob.box [C.v tFoe.slice b.1, C.v tSpot.slice b.2.1, C.v tTxts b.2.2.1, C.v tPart.slice b.2.2.2.1, C.v tInt b.2.2.2.2])] }
noncomputable def E_f_2h (N : Nat) : Env := envOf (tabOf tabL) (tabS (phiL_f_2h N)) inl0 N fi_f_2h []
noncomputable def K_f_2h := (kFun (tabOf tabL) fi_f_2h.res (kT (ofDs [tInt]) sg_f_2h []))
noncomputable def its_f_2h_0 (N : Nat) (n : Nat) : St → Option Int := fun S' => iter [] (annAt fi_f_2h 0) (code (E_f_2h N) (lpIn fi_f_2h.body 0 0) 0) n S' (contOf (E_f_2h N) fi_f_2h.body 0 0 K_f_2h)
noncomputable def it_f_2h_0 (N : Nat) (b : Book) (number : Int) (n : Nat) : Int → Option Int := fun i5 => its_f_2h_0 N n (S_f_2h_0 b number i5)
theorem fe_f_2h_0 (N : Nat) : it_f_2h_0 N = f_2h_0 N := funext fun b => funext fun number => funext (lp_all (by kernel_rfl) fun n => by
    show _ = f_2h_0r N b number (it_f_2h_0 N b number n)
    kernel_rfl)
theorem run_f_2h (N : Nat) (b : (List ((List UInt8) × (List UInt8))) × ((List ((List UInt8) × ((Int) × ((Int) × ((Int) × (List Txt)))))) × ((List Txt) × ((List (((Int) × ((Int) × ((List Txt) × ((List ((List UInt8) × ((Int) × (Int)))) × ((List Txt) × (List Txt)))))) × (Bool))) × (Int))))) (number : Int) : runST (ofDs [tInt]) (tabOf tabL) (tabS (phiL_f_2h N)) inl0 N fi_f_2h sg_f_2h [⟨tBook, b⟩, ⟨tInt, number⟩] = F.f_2h N b number := by
    show _ = F.f_2hb N (F.f_2h_0 N) b number
    rw [← fe_f_2h_0 N]
    kernel_rfl
def sm_f_2h (N : Nat) : Summ := summOf [.d tBook true, .d tInt false] false [.d tInt false] [tInt] (F.f_2h N)
theorem con_f_2h (N : Nat) : Contract Tryz.prog 58 (sm_f_2h N) := con_of (N := N) tabOK mixed (callOK_list (l := phiL_f_2h N) trivial) (inl0_ok _) ok_f_2h (by decide) fun b number => run_f_2h N b number
def an_f_27 : Nat → Option Ann
  | 0 => some ⟨{ fr := [(0, Dir.keep), (4, Dir.keep), (7, Dir.keep), (8, Dir.keep), (9, Dir.keep)], bx := [(500000, [Dir.keep, Dir.keep]), (4, [Dir.keep, Dir.keep, Dir.keep, Dir.keep, Dir.keep])], os := [] }, [(0, { fr := [(0, Dir.keep), (8, Dir.keep)], bx := [(500000, [Dir.keep, Dir.keep])], os := [] })], ⟨[], [], []⟩⟩
  | _ => none
noncomputable def fi_f_27 : FI := ⟨Tryz.f131.results.toList, bodyOf Tryz.f131.body, Tryz.f131.ntmps, an_f_27⟩
theorem ok_f_27 : FnOK Tryz.prog 131 fi_f_27 := ⟨⟨Tryz.f131, Tryz.func131, by kernel_rfl, rfl, rfl, by kernel_rfl⟩, by kernel_rfl⟩
def phiL_f_27 (N : Nat) : List (Nat × Summ) := [(58, sm_f_2h N), (53, sm_f_1g N)]
def sg_f_27 : Summ := sigOf [.bx (.pair (.slice tByte) tInt), .d tBook true, .d tInt false] true [.d tInt false]
def S_f_27_0 (r : Rdr) (b : Book) (r_1 : Int) (most8 : Int) (i9 : Int) : St := { fr := [(0, AV.w (V1.one (C.pb 500000 0))), (4, AV.w (V1.one (C.pb 4 0))), (7, .w (.one (.v tInt r_1))), (8, .w (.one (.v tInt most8))), (9, .w (.one (.v tInt i9)))], H := [(500000, Ob.box [C.v tByte.slice r.1, C.v tInt r.2]), (4, Ob.box [C.v tFoe.slice b.1, C.v tSpot.slice b.2.1, C.v tTxts b.2.2.1, C.v tPart.slice b.2.2.2.1, C.v tInt b.2.2.2.2])] }
noncomputable def E_f_27 (N : Nat) : Env := envOf (tabOf tabL) (tabS (phiL_f_27 N)) inl0 N fi_f_27 [500000]
noncomputable def K_f_27 := (kFun (tabOf tabL) fi_f_27.res (kT (ofDs [tInt, .pair (.slice tByte) tInt]) sg_f_27 [(500000, .bx (.pair (.slice tByte) tInt))]))
noncomputable def its_f_27_0 (N : Nat) (n : Nat) : St → Option (Int × Rdr) := fun S' => iter [500000] (annAt fi_f_27 0) (code (E_f_27 N) (lpIn fi_f_27.body 0 0) 0) n S' (contOf (E_f_27 N) fi_f_27.body 0 0 K_f_27)
noncomputable def it_f_27_0 (N : Nat) (r : Rdr) (b : Book) (r_1 : Int) (n : Nat) : Int → Int → Option (Int × Rdr) := fun most8 i9 => its_f_27_0 N n (S_f_27_0 r b r_1 most8 i9)
theorem fe_f_27_0 (N : Nat) : it_f_27_0 N = f_27_0 N := funext fun r => funext fun b => funext fun r_1 => funext (lp_all (by kernel_rfl) fun n => by
    show _ = f_27_0r N r b r_1 (it_f_27_0 N r b r_1 n)
    kernel_rfl)
theorem run_f_27 (N : Nat) (r : (List (Int)) × (Int)) (b : (List ((List UInt8) × (List UInt8))) × ((List ((List UInt8) × ((Int) × ((Int) × ((Int) × (List Txt)))))) × ((List Txt) × ((List (((Int) × ((Int) × ((List Txt) × ((List ((List UInt8) × ((Int) × (Int)))) × ((List Txt) × (List Txt)))))) × (Bool))) × (Int))))) (number : Int) : runST (ofDs [tInt, .pair (.slice tByte) tInt]) (tabOf tabL) (tabS (phiL_f_27 N)) inl0 N fi_f_27 sg_f_27 [⟨.pair (.slice tByte) tInt, r⟩, ⟨tBook, b⟩, ⟨tInt, number⟩] = F.f_27 N r b number := by
    show _ = F.f_27b N (F.f_27_0 N) r b number
    rw [← fe_f_27_0 N]
    kernel_rfl
def sm_f_27 (N : Nat) : Summ := summOf [.bx (.pair (.slice tByte) tInt), .d tBook true, .d tInt false] true [.d tInt false] [tInt, .pair (.slice tByte) tInt] (F.f_27 N)
theorem con_f_27 (N : Nat) : Contract Tryz.prog 131 (sm_f_27 N) := con_of (N := N) tabOK mixed (callOK_list (l := phiL_f_27 N) (allc rfl (con_f_2h N) (allc rfl (con_f_1g N) trivial))) (inl0_ok _) ok_f_27 (by decide) fun r b number => run_f_27 N r b number
def an_f_1v : Nat → Option Ann
  | 0 => some ⟨{ fr := [(0, Dir.keep), (1, Dir.keep), (5, Dir.keep)], bx := [], os := [] }, [(0, { fr := [(0, Dir.keep), (1, Dir.keep), (5, Dir.keep)], bx := [], os := [] })], ⟨[], [], []⟩⟩
  | _ => none
noncomputable def fi_f_1v : FI := ⟨Tryz.f142.results.toList, bodyOf Tryz.f142.body, Tryz.f142.ntmps, an_f_1v⟩
theorem ok_f_1v : FnOK Tryz.prog 142 fi_f_1v := ⟨⟨Tryz.f142, Tryz.func142, by kernel_rfl, rfl, rfl, by kernel_rfl⟩, by kernel_rfl⟩
def phiL_f_1v (N : Nat) : List (Nat × Summ) := []
def sg_f_1v : Summ := sigOf [.d tTxts false, .d (.str) false] true [.d tTxts false]
def S_f_1v_0 (list : List Txt) (name : Txt) (k5 : Int) : St := ⟨[(0, .w (.one (.v tTxts list))), (1, .w (.one (.v Ty.str name))), (5, .w (.one (.v tInt k5)))], []⟩
noncomputable def E_f_1v (N : Nat) : Env := envOf (tabOf tabL) (tabS (phiL_f_1v N)) inl0 N fi_f_1v []
noncomputable def K_f_1v := (kFun (tabOf tabL) fi_f_1v.res (kT (ofDs [tTxts]) sg_f_1v []))
noncomputable def its_f_1v_0 (N : Nat) (n : Nat) : St → Option (List Txt) := fun S' => iter [] (annAt fi_f_1v 0) (code (E_f_1v N) (lpIn fi_f_1v.body 0 0) 0) n S' (contOf (E_f_1v N) fi_f_1v.body 0 0 K_f_1v)
noncomputable def it_f_1v_0 (N : Nat) (list : List Txt) (name : Txt) (n : Nat) : Int → Option (List Txt) := fun k5 => its_f_1v_0 N n (S_f_1v_0 list name k5)
theorem fe_f_1v_0 (N : Nat) : it_f_1v_0 N = f_1v_0 N := funext fun list => funext fun name => funext (lp_all (by kernel_rfl) fun n => by
    show _ = f_1v_0r N list name (it_f_1v_0 N list name n)
    kernel_rfl)
theorem run_f_1v (N : Nat) (list : List (List UInt8)) (name : List UInt8) : runST (ofDs [tTxts]) (tabOf tabL) (tabS (phiL_f_1v N)) inl0 N fi_f_1v sg_f_1v [⟨tTxts, list⟩, ⟨.str, name⟩] = F.f_1v N list name := by
    show _ = F.f_1vb N (F.f_1v_0 N) list name
    rw [← fe_f_1v_0 N]
    kernel_rfl
def sm_f_1v (N : Nat) : Summ := summOf [.d tTxts false, .d (.str) false] true [.d tTxts false] [tTxts] (F.f_1v N)
theorem con_f_1v (N : Nat) : Contract Tryz.prog 142 (sm_f_1v N) := con_of (N := N) tabOK mixed (callOK_list (l := phiL_f_1v N) trivial) (inl0_ok _) ok_f_1v (by decide) fun list name => run_f_1v N list name
def an_f_2o : Nat → Option Ann
  | 0 => some ⟨{ fr := [(0, Dir.keep), (1, Dir.keep), (2, Dir.keep), (7, Dir.own 700007 9 Ty.str), (8, Dir.keep)], bx := [(500000, [Dir.keep, Dir.keep])], os := [] }, [(0, { fr := [(7, Dir.own 700007 9 Ty.str)], bx := [(500000, [Dir.keep, Dir.keep])], os := [] })], ⟨[], [], []⟩⟩
  | _ => none
noncomputable def fi_f_2o : FI := ⟨Tryz.f171.results.toList, bodyOf Tryz.f171.body, Tryz.f171.ntmps, an_f_2o⟩
theorem ok_f_2o : FnOK Tryz.prog 171 fi_f_2o := ⟨⟨Tryz.f171, Tryz.func171, by kernel_rfl, rfl, rfl, by kernel_rfl⟩, by kernel_rfl⟩
def phiL_f_2o (N : Nat) : List (Nat × Summ) := [(53, sm_f_1g N)]
def sg_f_2o : Summ := sigOf [.bx (.pair (.slice tByte) tInt), .d tTxts false, .d tInt false] true [.own tTxts false [(9, none)]]
def S_f_2o_0 (list : List Txt) (most : Int) (i8 : Int) (rpc0 : List Int) (rpc1 : Int) (out7a : List Txt) : St := { fr := [(0, AV.w (V1.one (C.pb 500000 0))), (1, .w (.one (.v tTxts list))), (2, .w (.one (.v tInt most))), (7, AV.w (V1.one (C.arr 700007))), (8, .w (.one (.v tInt i8)))], H := [(500000, Ob.box [C.v tByte.slice rpc0, C.v tInt rpc1]), (700007, Ob.arr 9 Ty.str out7a)] }
noncomputable def E_f_2o (N : Nat) : Env := envOf (tabOf tabL) (tabS (phiL_f_2o N)) inl0 N fi_f_2o [500000]
noncomputable def K_f_2o := (kFun (tabOf tabL) fi_f_2o.res (kT (ofDs [tTxts, .pair (.slice tByte) tInt]) sg_f_2o [(500000, .bx (.pair (.slice tByte) tInt))]))
noncomputable def its_f_2o_0 (N : Nat) (n : Nat) : St → Option (List Txt × Rdr) := fun S' => iter [500000] (annAt fi_f_2o 0) (code (E_f_2o N) (lpIn fi_f_2o.body 0 0) 0) n S' (contOf (E_f_2o N) fi_f_2o.body 0 0 K_f_2o)
noncomputable def it_f_2o_0 (N : Nat) (list : List Txt) (most : Int) (n : Nat) : Int → (List Int) → Int → (List Txt) → Option (List Txt × Rdr) := fun i8 rpc0 rpc1 out7a => its_f_2o_0 N n (S_f_2o_0 list most i8 rpc0 rpc1 out7a)
theorem fe_f_2o_0 (N : Nat) : it_f_2o_0 N = f_2o_0 N := funext fun list => funext fun most => funext (lp_all (by kernel_rfl) fun n => by
    show _ = f_2o_0r N list most (it_f_2o_0 N list most n)
    kernel_rfl)
theorem run_f_2o (N : Nat) (r : (List (Int)) × (Int)) (list : List (List UInt8)) (most : Int) : runST (ofDs [tTxts, .pair (.slice tByte) tInt]) (tabOf tabL) (tabS (phiL_f_2o N)) inl0 N fi_f_2o sg_f_2o [⟨.pair (.slice tByte) tInt, r⟩, ⟨tTxts, list⟩, ⟨tInt, most⟩] = F.f_2o N r list most := by
    show _ = F.f_2ob N (F.f_2o_0 N) r list most
    rw [← fe_f_2o_0 N]
    kernel_rfl
def sm_f_2o (N : Nat) : Summ := summOf [.bx (.pair (.slice tByte) tInt), .d tTxts false, .d tInt false] true [.own tTxts false [(9, none)]] [tTxts, .pair (.slice tByte) tInt] (F.f_2o N)
theorem con_f_2o (N : Nat) : Contract Tryz.prog 171 (sm_f_2o N) := con_of (N := N) tabOK mixed (callOK_list (l := phiL_f_2o N) (allc rfl (con_f_1g N) trivial)) (inl0_ok _) ok_f_2o (by decide) fun r list most => run_f_2o N r list most
def an_f_2z : Nat → Option Ann
  | 0 => some ⟨{ fr := [(0, Dir.keep), (1, Dir.keep), (5, Dir.keep)], bx := [], os := [] }, [(0, { fr := [], bx := [], os := [] })], { fr := [(4, Dir.keep)], bx := [], os := [] }⟩
  | _ => none
noncomputable def fi_f_2z : FI := ⟨Tryz.f102.results.toList, bodyOf Tryz.f102.body, Tryz.f102.ntmps, an_f_2z⟩
theorem ok_f_2z : FnOK Tryz.prog 102 fi_f_2z := ⟨⟨Tryz.f102, Tryz.func102, by kernel_rfl, rfl, rfl, by kernel_rfl⟩, by kernel_rfl⟩
def phiL_f_2z (N : Nat) : List (Nat × Summ) := []
def sg_f_2z : Summ := sigOf [.d tTxts false, .d (.str) false] false [.d (.bool) false]
def S_f_2z_0 (list : List Txt) (name : Txt) (i5 : Int) : St := ⟨[(0, .w (.one (.v tTxts list))), (1, .w (.one (.v Ty.str name))), (5, .w (.one (.v tInt i5)))], []⟩
noncomputable def E_f_2z (N : Nat) : Env := envOf (tabOf tabL) (tabS (phiL_f_2z N)) inl0 N fi_f_2z []
noncomputable def K_f_2z := (kFun (tabOf tabL) fi_f_2z.res (kT (ofDs [.bool]) sg_f_2z []))
noncomputable def its_f_2z_0 (N : Nat) (n : Nat) : St → Option Bool := fun S' => iter [] (annAt fi_f_2z 0) (code (E_f_2z N) (lpIn fi_f_2z.body 0 0) 0) n S' (contOf (E_f_2z N) fi_f_2z.body 0 0 K_f_2z)
noncomputable def it_f_2z_0 (N : Nat) (list : List Txt) (name : Txt) (n : Nat) : Int → Option Bool := fun i5 => its_f_2z_0 N n (S_f_2z_0 list name i5)
theorem fe_f_2z_0 (N : Nat) : it_f_2z_0 N = f_2z_0 N := funext fun list => funext fun name => funext (lp_all (by kernel_rfl) fun n => by
    show _ = f_2z_0r N list name (it_f_2z_0 N list name n)
    kernel_rfl)
theorem run_f_2z (N : Nat) (list : List (List UInt8)) (name : List UInt8) : runST (ofDs [.bool]) (tabOf tabL) (tabS (phiL_f_2z N)) inl0 N fi_f_2z sg_f_2z [⟨tTxts, list⟩, ⟨.str, name⟩] = F.f_2z N list name := by
    show _ = F.f_2zb N (F.f_2z_0 N) list name
    rw [← fe_f_2z_0 N]
    kernel_rfl
def sm_f_2z (N : Nat) : Summ := summOf [.d tTxts false, .d (.str) false] false [.d (.bool) false] [.bool] (F.f_2z N)
theorem con_f_2z (N : Nat) : Contract Tryz.prog 102 (sm_f_2z N) := con_of (N := N) tabOK mixed (callOK_list (l := phiL_f_2z N) trivial) (inl0_ok _) ok_f_2z (by decide) fun list name => run_f_2z N list name
def an_f_2n : Nat → Option Ann
  | 0 => some ⟨{ fr := [(0, Dir.keep), (4, Dir.keep), (6, Dir.keep), (7, Dir.keep), (8, Dir.keep)], bx := [(500000, [Dir.keep, Dir.keep]), (4, [Dir.keep, Dir.keep, Dir.keep, Dir.keep, Dir.keep]), (6, [Dir.keep, Dir.keep, Dir.keep, Dir.keep, Dir.keep, Dir.keep]), (7, [Dir.keep, Dir.keep, Dir.frz Ty.str, Dir.keep, Dir.keep, Dir.keep])], os := [] }, [(0, { fr := [(0, Dir.keep), (4, Dir.keep), (6, Dir.keep), (7, Dir.keep)], bx := [(500000, [Dir.keep, Dir.keep]), (4, [Dir.keep, Dir.keep, Dir.keep, Dir.keep, Dir.keep]), (6, [Dir.keep, Dir.keep, Dir.keep, Dir.keep, Dir.keep, Dir.keep]), (7, [Dir.keep, Dir.keep, Dir.frz Ty.str, Dir.keep, Dir.keep, Dir.keep])], os := [] })], ⟨[], [], []⟩⟩
  | 2 => some ⟨{ fr := [(0, Dir.keep), (4, Dir.keep), (6, Dir.keep), (7, Dir.keep), (8, Dir.keep), (9, Dir.keep)], bx := [(500000, [Dir.keep, Dir.keep]), (4, [Dir.keep, Dir.keep, Dir.keep, Dir.keep, Dir.keep]), (6, [Dir.keep, Dir.keep, Dir.keep, Dir.keep, Dir.keep, Dir.keep]), (7, [Dir.keep, Dir.keep, Dir.frz Ty.str, Dir.keep, Dir.keep, Dir.keep])], os := [] }, [(2, { fr := [(0, Dir.keep), (4, Dir.keep), (6, Dir.keep), (7, Dir.keep), (8, Dir.keep)], bx := [(500000, [Dir.keep, Dir.keep]), (4, [Dir.keep, Dir.keep, Dir.keep, Dir.keep, Dir.keep]), (6, [Dir.keep, Dir.keep, Dir.keep, Dir.keep, Dir.keep, Dir.keep]), (7, [Dir.keep, Dir.keep, Dir.frz Ty.str, Dir.keep, Dir.keep, Dir.keep])], os := [] })], ⟨[], [], []⟩⟩
  | 4 => some ⟨{ fr := [(0, Dir.keep), (4, Dir.keep), (6, Dir.keep), (7, Dir.keep), (10, Dir.keep)], bx := [(500000, [Dir.keep, Dir.keep]), (4, [Dir.keep, Dir.keep, Dir.keep, Dir.keep, Dir.keep]), (6, [Dir.keep, Dir.keep, Dir.keep, Dir.keep, Dir.keep, Dir.keep]), (7, [Dir.keep, Dir.keep, Dir.frz Ty.str, Dir.own 1000703 82 tUse, Dir.keep, Dir.keep])], os := [] }, [(4, { fr := [(0, Dir.keep), (4, Dir.keep), (6, Dir.keep), (7, Dir.keep)], bx := [(500000, [Dir.keep, Dir.keep]), (4, [Dir.keep, Dir.keep, Dir.keep, Dir.keep, Dir.keep]), (6, [Dir.keep, Dir.keep, Dir.keep, Dir.keep, Dir.keep, Dir.keep]), (7, [Dir.keep, Dir.keep, Dir.frz Ty.str, Dir.own 1000703 82 tUse, Dir.keep, Dir.keep])], os := [] })], ⟨[], [], []⟩⟩
  | 6 => some ⟨{ fr := [(0, Dir.keep), (4, Dir.keep), (6, Dir.keep), (7, Dir.keep), (10, Dir.keep), (11, Dir.keep), (12, Dir.keep)], bx := [(500000, [Dir.keep, Dir.keep]), (4, [Dir.keep, Dir.keep, Dir.keep, Dir.keep, Dir.keep]), (6, [Dir.keep, Dir.keep, Dir.keep, Dir.keep, Dir.keep, Dir.keep]), (7, [Dir.keep, Dir.keep, Dir.frz Ty.str, Dir.own 1000703 82 tUse, Dir.keep, Dir.keep]), (11, [Dir.keep, Dir.keep, Dir.keep])], os := [] }, [(6, { fr := [(0, Dir.keep), (4, Dir.keep), (6, Dir.keep), (7, Dir.keep), (10, Dir.keep), (11, Dir.keep)], bx := [(500000, [Dir.keep, Dir.keep]), (4, [Dir.keep, Dir.keep, Dir.keep, Dir.keep, Dir.keep]), (6, [Dir.keep, Dir.keep, Dir.keep, Dir.keep, Dir.keep, Dir.keep]), (7, [Dir.keep, Dir.keep, Dir.frz Ty.str, Dir.own 1000703 82 tUse, Dir.keep, Dir.keep]), (11, [Dir.keep, Dir.keep, Dir.keep])], os := [] })], ⟨[], [], []⟩⟩
  | 8 => some ⟨{ fr := [(6, Dir.keep), (7, Dir.keep), (13, Dir.own 700013 9 Ty.str), (14, Dir.keep)], bx := [(500000, [Dir.keep, Dir.keep]), (6, [Dir.keep, Dir.keep, Dir.keep, Dir.keep, Dir.keep, Dir.keep]), (7, [Dir.keep, Dir.keep, Dir.frz Ty.str, Dir.own 1000703 82 tUse, Dir.own 1000704 9 Ty.str, Dir.own 1000705 9 Ty.str])], os := [] }, [(8, { fr := [(6, Dir.keep), (7, Dir.keep)], bx := [(500000, [Dir.keep, Dir.keep]), (6, [Dir.keep, Dir.keep, Dir.keep, Dir.keep, Dir.keep, Dir.keep]), (7, [Dir.keep, Dir.keep, Dir.frz Ty.str, Dir.own 1000703 82 tUse, Dir.own 1000704 9 Ty.str, Dir.own 1000705 9 Ty.str])], os := [] })], ⟨[], [], []⟩⟩
  | _ => none
noncomputable def fi_f_2n : FI := ⟨Tryz.f120.results.toList, bodyOf Tryz.f120.body, Tryz.f120.ntmps, an_f_2n⟩
theorem ok_f_2n : FnOK Tryz.prog 120 fi_f_2n := ⟨⟨Tryz.f120, Tryz.func120, by kernel_rfl, rfl, rfl, by kernel_rfl⟩, by kernel_rfl⟩
def phiL_f_2n (N : Nat) : List (Nat × Summ) := [(53, sm_f_1g N), (128, sm_f_20 N), (142, sm_f_1v N), (171, sm_f_2o N), (102, sm_f_2z N)]
def sg_f_2n : Summ := sigOf [.bx (.pair (.slice tByte) tInt), .d tBook true, .d tInt false] true [.d tWant true]
def S_f_2n_2 (b : Book) (number : Int) (t6c0 : Int) (t6c1 : Int) (w7c1 : Int) (i8 : Int) (r_3 : Int × Rdr) (k9 : Int) (w7c2_1 : List Txt) : St := { fr := [(0, AV.w (V1.one (C.pb 500000 0))), (4, AV.w (V1.one (C.pb 4 0))), (6, AV.w (V1.one (C.pb 6 0))), (7, AV.w (V1.one (C.pb 7 0))), (8, .w (.one (.v tInt i8))), (9, .w (.one (.v tInt k9)))], H := [(500000, Ob.box [C.v tByte.slice r_3.2.1, C.v tInt r_3.2.2]), (4, Ob.box [C.v tFoe.slice b.1, C.v tSpot.slice b.2.1, C.v tTxts b.2.2.1, C.v tPart.slice b.2.2.2.1, C.v tInt b.2.2.2.2]), (6, Ob.box [C.v tInt t6c0, C.v tInt t6c1, C.emp, C.emp, C.emp, C.emp]), (7, Ob.box [C.v tInt number, C.v tInt w7c1, C.v tTxts w7c2_1, C.emp, C.emp, C.emp])] }
def S_f_2n_6 (b : Book) (number : Int) (t6c0_2 : Int) (t6c1_2 : Int) (w7c1_2 : Int) (i10 : Int) (w7c3a : List Use) (u11c0 : Txt) (u11c1 : Int) (u11c2 : Int) (k12 : Int) (rpc0_3 : List Int) (rpc1_3 : Int) (w7c2_3 : List Txt) : St := { fr := [(0, AV.w (V1.one (C.pb 500000 0))), (4, AV.w (V1.one (C.pb 4 0))), (6, AV.w (V1.one (C.pb 6 0))), (7, AV.w (V1.one (C.pb 7 0))), (10, .w (.one (.v tInt i10))), (11, AV.w (V1.one (C.pb 11 0))), (12, .w (.one (.v tInt k12)))], H := [(500000, Ob.box [C.v tByte.slice rpc0_3, C.v tInt rpc1_3]), (4, Ob.box [C.v tFoe.slice b.1, C.v tSpot.slice b.2.1, C.v tTxts b.2.2.1, C.v tPart.slice b.2.2.2.1, C.v tInt b.2.2.2.2]), (6, Ob.box [C.v tInt t6c0_2, C.v tInt t6c1_2, C.emp, C.emp, C.emp, C.emp]), (7, Ob.box [C.v tInt number, C.v tInt w7c1_2, C.v tTxts w7c2_3, C.arr 1000703, C.emp, C.emp]), (11, Ob.box [C.v Ty.str u11c0, C.v tInt u11c1, C.v tInt u11c2]), (1000703, Ob.arr 82 tUse w7c3a)] }
def S_f_2n_8 (number : Int) (t6c0_2 : Int) (t6c1_2 : Int) (w7c1_2 : Int) (w7c2_2 : List Txt) (w7c3a : List Use) (r_10 : List Txt × Rdr) (r_11 : List Txt × Rdr) (i14 : Int) (w7c4a : List Txt) : St := { fr := [(6, AV.w (V1.one (C.pb 6 0))), (7, AV.w (V1.one (C.pb 7 0))), (13, AV.w (V1.one (C.arr 700013))), (14, .w (.one (.v tInt i14)))], H := [(500000, Ob.box [C.v tByte.slice r_11.2.1, C.v tInt r_11.2.2]), (6, Ob.box [C.v tInt t6c0_2, C.v tInt t6c1_2, C.emp, C.emp, C.emp, C.emp]), (7, Ob.box [C.v tInt number, C.v tInt w7c1_2, C.v tTxts w7c2_2, C.arr 1000703, C.arr 1000704, C.arr 1000705]), (700013, Ob.arr 9 Ty.str r_11.1), (1000703, Ob.arr 82 tUse w7c3a), (1000704, Ob.arr 9 Ty.str w7c4a), (1000705, Ob.arr 9 Ty.str r_10.1)] }
def S_f_2n_4 (b : Book) (number : Int) (t6c0_2 : Int) (t6c1_2 : Int) (w7c1_2 : Int) (i10 : Int) (rpc0_2 : List Int) (rpc1_2 : Int) (w7c2_2 : List Txt) (w7c3a : List Use) : St := { fr := [(0, AV.w (V1.one (C.pb 500000 0))), (4, AV.w (V1.one (C.pb 4 0))), (6, AV.w (V1.one (C.pb 6 0))), (7, AV.w (V1.one (C.pb 7 0))), (10, .w (.one (.v tInt i10)))], H := [(500000, Ob.box [C.v tByte.slice rpc0_2, C.v tInt rpc1_2]), (4, Ob.box [C.v tFoe.slice b.1, C.v tSpot.slice b.2.1, C.v tTxts b.2.2.1, C.v tPart.slice b.2.2.2.1, C.v tInt b.2.2.2.2]), (6, Ob.box [C.v tInt t6c0_2, C.v tInt t6c1_2, C.emp, C.emp, C.emp, C.emp]), (7, Ob.box [C.v tInt number, C.v tInt w7c1_2, C.v tTxts w7c2_2, C.arr 1000703, C.emp, C.emp]), (1000703, Ob.arr 82 tUse w7c3a)] }
def S_f_2n_0 (b : Book) (number : Int) (t6c0 : Int) (t6c1 : Int) (w7c1 : Int) (i8 : Int) (rpc0 : List Int) (rpc1 : Int) (w7c2 : List Txt) : St := { fr := [(0, AV.w (V1.one (C.pb 500000 0))), (4, AV.w (V1.one (C.pb 4 0))), (6, AV.w (V1.one (C.pb 6 0))), (7, AV.w (V1.one (C.pb 7 0))), (8, .w (.one (.v tInt i8)))], H := [(500000, Ob.box [C.v tByte.slice rpc0, C.v tInt rpc1]), (4, Ob.box [C.v tFoe.slice b.1, C.v tSpot.slice b.2.1, C.v tTxts b.2.2.1, C.v tPart.slice b.2.2.2.1, C.v tInt b.2.2.2.2]), (6, Ob.box [C.v tInt t6c0, C.v tInt t6c1, C.emp, C.emp, C.emp, C.emp]), (7, Ob.box [C.v tInt number, C.v tInt w7c1, C.v tTxts w7c2, C.emp, C.emp, C.emp])] }
noncomputable def E_f_2n (N : Nat) : Env := envOf (tabOf tabL) (tabS (phiL_f_2n N)) inl0 N fi_f_2n [500000]
noncomputable def K_f_2n := (kFun (tabOf tabL) fi_f_2n.res (kT (ofDs [tWant, .pair (.slice tByte) tInt]) sg_f_2n [(500000, .bx (.pair (.slice tByte) tInt))]))
noncomputable def its_f_2n_2 (N : Nat) (nxS0 : St → Option (Want × Rdr)) (n : Nat) : St → Option (Want × Rdr) := fun S' => iter [500000] (annAt fi_f_2n 2) (code (E_f_2n N) (lpIn (lpIn fi_f_2n.body 0 0) 0 2) 2) n S' (contOf (E_f_2n N) (lpIn fi_f_2n.body 0 0) 0 2 (kLoop [500000] (annAt fi_f_2n 0) nxS0 (contOf (E_f_2n N) fi_f_2n.body 0 0 K_f_2n)))
noncomputable def it_f_2n_2 (N : Nat) (nxS0 : St → Option (Want × Rdr)) (b : Book) (number : Int) (t6c0 : Int) (t6c1 : Int) (w7c1 : Int) (i8 : Int) (r_3 : Int × Rdr) (n : Nat) : Int → (List Txt) → Option (Want × Rdr) := fun k9 w7c2_1 => its_f_2n_2 N nxS0 n (S_f_2n_2 b number t6c0 t6c1 w7c1 i8 r_3 k9 w7c2_1)
theorem fe_f_2n_2 (N : Nat) (nxS0 : St → Option (Want × Rdr)) (b : Book) (number : Int) (t6c0 : Int) (t6c1 : Int) (w7c1 : Int) : it_f_2n_2 N nxS0 b number t6c0 t6c1 w7c1 = f_2n_2 N (fun i8 rpc0 rpc1 w7c2 => nxS0 (S_f_2n_0 b number t6c0 t6c1 w7c1 i8 rpc0 rpc1 w7c2)) b number t6c0 t6c1 w7c1 := funext fun i8 => funext fun r_3 => funext (lp_all (by kernel_rfl) fun n => by
    show _ = f_2n_2r N (fun i8 rpc0 rpc1 w7c2 => nxS0 (S_f_2n_0 b number t6c0 t6c1 w7c1 i8 rpc0 rpc1 w7c2)) b number t6c0 t6c1 w7c1 i8 r_3 (it_f_2n_2 N nxS0 b number t6c0 t6c1 w7c1 i8 r_3 n)
    kernel_rfl)
noncomputable def its_f_2n_6 (N : Nat) (nxS4 : St → Option (Want × Rdr)) (n : Nat) : St → Option (Want × Rdr) := fun S' => iter [500000] (annAt fi_f_2n 6) (code (E_f_2n N) (lpIn (lpIn fi_f_2n.body 0 4) 4 6) 6) n S' (contOf (E_f_2n N) (lpIn fi_f_2n.body 0 4) 4 6 (kLoop [500000] (annAt fi_f_2n 4) nxS4 (contOf (E_f_2n N) fi_f_2n.body 0 4 K_f_2n)))
noncomputable def it_f_2n_6 (N : Nat) (nxS4 : St → Option (Want × Rdr)) (b : Book) (number : Int) (t6c0_2 : Int) (t6c1_2 : Int) (w7c1_2 : Int) (i10 : Int) (w7c3a : List Use) (u11c0 : Txt) (u11c1 : Int) (u11c2 : Int) (n : Nat) : Int → (List Int) → Int → (List Txt) → Option (Want × Rdr) := fun k12 rpc0_3 rpc1_3 w7c2_3 => its_f_2n_6 N nxS4 n (S_f_2n_6 b number t6c0_2 t6c1_2 w7c1_2 i10 w7c3a u11c0 u11c1 u11c2 k12 rpc0_3 rpc1_3 w7c2_3)
theorem fe_f_2n_6 (N : Nat) (nxS4 : St → Option (Want × Rdr)) (b : Book) (number : Int) (t6c0_2 : Int) (t6c1_2 : Int) (w7c1_2 : Int) : it_f_2n_6 N nxS4 b number t6c0_2 t6c1_2 w7c1_2 = f_2n_6 N (fun i10 rpc0_2 rpc1_2 w7c2_2 w7c3a => nxS4 (S_f_2n_4 b number t6c0_2 t6c1_2 w7c1_2 i10 rpc0_2 rpc1_2 w7c2_2 w7c3a)) b number t6c0_2 t6c1_2 w7c1_2 := funext fun i10 => funext fun w7c3a => funext fun u11c0 => funext fun u11c1 => funext fun u11c2 => funext (lp_all (by kernel_rfl) fun n => by
    show _ = f_2n_6r N (fun i10 rpc0_2 rpc1_2 w7c2_2 w7c3a => nxS4 (S_f_2n_4 b number t6c0_2 t6c1_2 w7c1_2 i10 rpc0_2 rpc1_2 w7c2_2 w7c3a)) b number t6c0_2 t6c1_2 w7c1_2 i10 w7c3a u11c0 u11c1 u11c2 (it_f_2n_6 N nxS4 b number t6c0_2 t6c1_2 w7c1_2 i10 w7c3a u11c0 u11c1 u11c2 n)
    kernel_rfl)
noncomputable def its_f_2n_8 (N : Nat) (n : Nat) : St → Option (Want × Rdr) := fun S' => iter [500000] (annAt fi_f_2n 8) (code (E_f_2n N) (lpIn fi_f_2n.body 0 8) 8) n S' (contOf (E_f_2n N) fi_f_2n.body 0 8 K_f_2n)
noncomputable def it_f_2n_8 (N : Nat) (number : Int) (t6c0_2 : Int) (t6c1_2 : Int) (w7c1_2 : Int) (w7c2_2 : List Txt) (w7c3a : List Use) (r_10 : List Txt × Rdr) (r_11 : List Txt × Rdr) (n : Nat) : Int → (List Txt) → Option (Want × Rdr) := fun i14 w7c4a => its_f_2n_8 N n (S_f_2n_8 number t6c0_2 t6c1_2 w7c1_2 w7c2_2 w7c3a r_10 r_11 i14 w7c4a)
theorem fe_f_2n_8 (N : Nat) : it_f_2n_8 N = f_2n_8 N := funext fun number => funext fun t6c0_2 => funext fun t6c1_2 => funext fun w7c1_2 => funext fun w7c2_2 => funext fun w7c3a => funext fun r_10 => funext fun r_11 => funext (lp_all (by kernel_rfl) fun n => by
    show _ = f_2n_8r N number t6c0_2 t6c1_2 w7c1_2 w7c2_2 w7c3a r_10 r_11 (it_f_2n_8 N number t6c0_2 t6c1_2 w7c1_2 w7c2_2 w7c3a r_10 r_11 n)
    kernel_rfl)
noncomputable def its_f_2n_4 (N : Nat) (n : Nat) : St → Option (Want × Rdr) := fun S' => iter [500000] (annAt fi_f_2n 4) (code (E_f_2n N) (lpIn fi_f_2n.body 0 4) 4) n S' (contOf (E_f_2n N) fi_f_2n.body 0 4 K_f_2n)
noncomputable def it_f_2n_4 (N : Nat) (b : Book) (number : Int) (t6c0_2 : Int) (t6c1_2 : Int) (w7c1_2 : Int) (n : Nat) : Int → (List Int) → Int → (List Txt) → (List Use) → Option (Want × Rdr) := fun i10 rpc0_2 rpc1_2 w7c2_2 w7c3a => its_f_2n_4 N n (S_f_2n_4 b number t6c0_2 t6c1_2 w7c1_2 i10 rpc0_2 rpc1_2 w7c2_2 w7c3a)
theorem fe_f_2n_4 (N : Nat) : it_f_2n_4 N = f_2n_4 N := funext fun b => funext fun number => funext fun t6c0_2 => funext fun t6c1_2 => funext fun w7c1_2 => funext (lp_all (by kernel_rfl) fun n => by
    show _ = f_2n_4r N (f_2n_6 N (it_f_2n_4 N b number t6c0_2 t6c1_2 w7c1_2 n) b number t6c0_2 t6c1_2 w7c1_2) (f_2n_8 N) b number t6c0_2 t6c1_2 w7c1_2 (it_f_2n_4 N b number t6c0_2 t6c1_2 w7c1_2 n)
    rw [show f_2n_6 N (it_f_2n_4 N b number t6c0_2 t6c1_2 w7c1_2 n) b number t6c0_2 t6c1_2 w7c1_2 = it_f_2n_6 N (its_f_2n_4 N n) b number t6c0_2 t6c1_2 w7c1_2 from (fe_f_2n_6 N (its_f_2n_4 N n) b number t6c0_2 t6c1_2 w7c1_2).symm]
    rw [show f_2n_8 N = it_f_2n_8 N from (fe_f_2n_8 N).symm]
    kernel_rfl)
noncomputable def its_f_2n_0 (N : Nat) (n : Nat) : St → Option (Want × Rdr) := fun S' => iter [500000] (annAt fi_f_2n 0) (code (E_f_2n N) (lpIn fi_f_2n.body 0 0) 0) n S' (contOf (E_f_2n N) fi_f_2n.body 0 0 K_f_2n)
noncomputable def it_f_2n_0 (N : Nat) (b : Book) (number : Int) (t6c0 : Int) (t6c1 : Int) (w7c1 : Int) (n : Nat) : Int → (List Int) → Int → (List Txt) → Option (Want × Rdr) := fun i8 rpc0 rpc1 w7c2 => its_f_2n_0 N n (S_f_2n_0 b number t6c0 t6c1 w7c1 i8 rpc0 rpc1 w7c2)
theorem fe_f_2n_0 (N : Nat) : it_f_2n_0 N = f_2n_0 N := funext fun b => funext fun number => funext fun t6c0 => funext fun t6c1 => funext fun w7c1 => funext (lp_all (by kernel_rfl) fun n => by
    show _ = f_2n_0r N (f_2n_2 N (it_f_2n_0 N b number t6c0 t6c1 w7c1 n) b number t6c0 t6c1 w7c1) (f_2n_4 N) b number t6c0 t6c1 w7c1 (it_f_2n_0 N b number t6c0 t6c1 w7c1 n)
    rw [show f_2n_2 N (it_f_2n_0 N b number t6c0 t6c1 w7c1 n) b number t6c0 t6c1 w7c1 = it_f_2n_2 N (its_f_2n_0 N n) b number t6c0 t6c1 w7c1 from (fe_f_2n_2 N (its_f_2n_0 N n) b number t6c0 t6c1 w7c1).symm]
    rw [show f_2n_4 N = it_f_2n_4 N from (fe_f_2n_4 N).symm]
    kernel_rfl)
theorem run_f_2n (N : Nat) (r : (List (Int)) × (Int)) (b : (List ((List UInt8) × (List UInt8))) × ((List ((List UInt8) × ((Int) × ((Int) × ((Int) × (List Txt)))))) × ((List Txt) × ((List (((Int) × ((Int) × ((List Txt) × ((List ((List UInt8) × ((Int) × (Int)))) × ((List Txt) × (List Txt)))))) × (Bool))) × (Int))))) (number : Int) : runST (ofDs [tWant, .pair (.slice tByte) tInt]) (tabOf tabL) (tabS (phiL_f_2n N)) inl0 N fi_f_2n sg_f_2n [⟨.pair (.slice tByte) tInt, r⟩, ⟨tBook, b⟩, ⟨tInt, number⟩] = F.f_2n N r b number := by
    show _ = F.f_2nb N (F.f_2n_0 N) (F.f_2n_4 N) r b number
    rw [← fe_f_2n_0 N]
    rw [← fe_f_2n_4 N]
    kernel_rfl
def sm_f_2n (N : Nat) : Summ := summOf [.bx (.pair (.slice tByte) tInt), .d tBook true, .d tInt false] true [.d tWant true] [tWant, .pair (.slice tByte) tInt] (F.f_2n N)
theorem con_f_2n (N : Nat) : Contract Tryz.prog 120 (sm_f_2n N) := con_of (N := N) tabOK mixed (callOK_list (l := phiL_f_2n N) (allc rfl (con_f_1g N) (allc rfl (con_f_20 N) (allc rfl (con_f_1v N) (allc rfl (con_f_2o N) (allc rfl (con_f_2z N) trivial)))))) (inl0_ok _) ok_f_2n (by decide) fun r b number => run_f_2n N r b number
def an_f_1z : Nat → Option Ann := fun _ => none
noncomputable def fi_f_1z : FI := ⟨Tryz.f129.results.toList, bodyOf Tryz.f129.body, Tryz.f129.ntmps, an_f_1z⟩
theorem ok_f_1z : FnOK Tryz.prog 129 fi_f_1z := ⟨⟨Tryz.f129, Tryz.func129, by kernel_rfl, rfl, rfl, by kernel_rfl⟩, by kernel_rfl⟩
def phiL_f_1z (N : Nat) : List (Nat × Summ) := []
def sg_f_1z : Summ := sigOf [.d tTxts false] false [.own tTxts false [(9, none)]]
theorem run_f_1z (N : Nat) (list : List (List UInt8)) : runST (ofDs [tTxts]) (tabOf tabL) (tabS (phiL_f_1z N)) inl0 N fi_f_1z sg_f_1z [⟨tTxts, list⟩] = F.f_1z N list := by kernel_rfl
def sm_f_1z (N : Nat) : Summ := summOf [.d tTxts false] false [.own tTxts false [(9, none)]] [tTxts] (F.f_1z N)
theorem con_f_1z (N : Nat) : Contract Tryz.prog 129 (sm_f_1z N) := con_of (N := N) tabOK mixed (callOK_list (l := phiL_f_1z N) trivial) (inl0_ok _) ok_f_1z (by decide) fun list => run_f_1z N list
def an_f_2e : Nat → Option Ann := fun _ => none
noncomputable def fi_f_2e : FI := ⟨Tryz.f130.results.toList, bodyOf Tryz.f130.body, Tryz.f130.ntmps, an_f_2e⟩
theorem ok_f_2e : FnOK Tryz.prog 130 fi_f_2e := ⟨⟨Tryz.f130, Tryz.func130, by kernel_rfl, rfl, rfl, by kernel_rfl⟩, by kernel_rfl⟩
def phiL_f_2e (N : Nat) : List (Nat × Summ) := [(129, sm_f_1z N)]
def sg_f_2e : Summ := sigOf [.d tWant true] false [.own tWant true [(9, none), (82, none), (9, none), (9, none)]]
theorem run_f_2e (N : Nat) (w : (Int) × ((Int) × ((List Txt) × ((List ((List UInt8) × ((Int) × (Int)))) × ((List Txt) × (List Txt)))))) : runST (ofDs [tWant]) (tabOf tabL) (tabS (phiL_f_2e N)) inl0 N fi_f_2e sg_f_2e [⟨tWant, w⟩] = F.f_2e N w := by kernel_rfl
def sm_f_2e (N : Nat) : Summ := summOf [.d tWant true] false [.own tWant true [(9, none), (82, none), (9, none), (9, none)]] [tWant] (F.f_2e N)
theorem con_f_2e (N : Nat) : Contract Tryz.prog 130 (sm_f_2e N) := con_of (N := N) tabOK mixed (callOK_list (l := phiL_f_2e N) (allc rfl (con_f_1z N) trivial)) (inl0_ok _) ok_f_2e (by decide) fun w => run_f_2e N w
def an_f_32 : Nat → Option Ann := fun _ => none
noncomputable def fi_f_32 : FI := ⟨Tryz.f176.results.toList, bodyOf Tryz.f176.body, Tryz.f176.ntmps, an_f_32⟩
theorem ok_f_32 : FnOK Tryz.prog 176 fi_f_32 := ⟨⟨Tryz.f176, Tryz.func176, by kernel_rfl, rfl, rfl, by kernel_rfl⟩, by kernel_rfl⟩
def smF_f_32 (N m : Nat) : Summ := summOf [.d tInt false] false [.d (.str) false] [.str] (F.f_32F N m)
def sm_f_32 (N : Nat) : Summ := summOf [.d tInt false] false [.d (.str) false] [.str] (F.f_32 N)
def phiL0_f_32 (N : Nat) : List (Nat × Summ) := []
def phiL1_f_32 (N m : Nat) : List (Nat × Summ) := [(176, smF_f_32 N m)]
def sg_f_32 : Summ := sigOf [.d tInt false] false [.d (.str) false]
theorem run0_f_32 (N : Nat) (n : Int) : runST (ofDs [.str]) (tabOf tabL) (tabS (phiL0_f_32 N)) inl0 N fi_f_32 sg_f_32 [⟨tInt, n⟩] = F.f_32F N 0 n := by kernel_rfl
theorem run1_f_32 (N m : Nat) (n : Int) : runST (ofDs [.str]) (tabOf tabL) (tabS (phiL1_f_32 N m)) inl0 N fi_f_32 sg_f_32 [⟨tInt, n⟩] = F.f_32F N (m + 1) n := by kernel_rfl
theorem conF_f_32 (N : Nat) : ∀ m, Contract Tryz.prog 176 (smF_f_32 N m)
  | 0 => con_of (N := N) tabOK mixed (callOK_list (l := phiL0_f_32 N) trivial) (inl0_ok _) ok_f_32 (by decide) fun n => run0_f_32 N n
  | m + 1 => con_of (N := N) tabOK mixed (callOK_list (l := phiL1_f_32 N m) (allc rfl (conF_f_32 N m) trivial)) (inl0_ok _) ok_f_32 (by decide) fun n => run1_f_32 N m n
theorem con_f_32 (N : Nat) : Contract Tryz.prog 176 (sm_f_32 N) := conF_f_32 N 64
def an_f_12 : Nat → Option Ann
  | 1 => some ⟨{ fr := [(4, Dir.keep), (5, Dir.keep), (6, Dir.keep), (7, Dir.keep)], bx := [(500000, [Dir.keep, Dir.keep]), (4, [Dir.keep, Dir.keep, Dir.keep, Dir.keep, Dir.keep, Dir.keep]), (5, [Dir.keep, Dir.keep, Dir.own 1000502 9 Ty.str, Dir.own 1000503 82 tUse, Dir.own 1000504 9 Ty.str, Dir.own 1000505 9 Ty.str])], os := [] }, [(1, { fr := [(4, Dir.keep), (5, Dir.keep)], bx := [(500000, [Dir.keep, Dir.keep]), (4, [Dir.keep, Dir.keep, Dir.keep, Dir.keep, Dir.keep, Dir.keep]), (5, [Dir.keep, Dir.keep, Dir.own 1000502 9 Ty.str, Dir.own 1000503 82 tUse, Dir.own 1000504 9 Ty.str, Dir.own 1000505 9 Ty.str])], os := [] })], ⟨[], [], []⟩⟩
  | _ => none
noncomputable def fi_f_12 : FI := ⟨Tryz.f132.results.toList, bodyOf Tryz.f132.body, Tryz.f132.ntmps, an_f_12⟩
theorem ok_f_12 : FnOK Tryz.prog 132 fi_f_12 := ⟨⟨Tryz.f132, Tryz.func132, by kernel_rfl, rfl, rfl, by kernel_rfl⟩, by kernel_rfl⟩
def phiL_f_12 (N : Nat) : List (Nat × Summ) := [(130, sm_f_2e N), (53, sm_f_1g N), (128, sm_f_20 N), (176, sm_f_32 N)]
def sg_f_12 : Summ := sigOf [.bx (.pair (.slice tByte) tInt), .d tWant true] true [.d tWant true]
def S_f_12_1 (r_1 : Want) (r_13 : Int × Rdr) (n6 : Int) (t4c0 : Int) (t4c1 : Int) (i7 : Int) (x5c5a : List Txt) : St := { fr := [(4, AV.w (V1.one (C.pb 4 0))), (5, AV.w (V1.one (C.pb 5 0))), (6, .w (.one (.v tInt n6))), (7, .w (.one (.v tInt i7)))], H := [(500000, Ob.box [C.v tByte.slice r_13.2.1, C.v tInt r_13.2.2]), (4, Ob.box [C.v tInt t4c0, C.v tInt t4c1, C.emp, C.emp, C.emp, C.emp]), (5, Ob.box [C.v tInt r_1.1, C.v tInt r_1.2.1, C.arr 1000502, C.arr 1000503, C.arr 1000504, C.arr 1000505]), (1000502, Ob.arr 9 Ty.str r_1.2.2.1), (1000503, Ob.arr 82 tUse r_1.2.2.2.1), (1000504, Ob.arr 9 Ty.str r_1.2.2.2.2.1), (1000505, Ob.arr 9 Ty.str x5c5a)] }
noncomputable def E_f_12 (N : Nat) : Env := envOf (tabOf tabL) (tabS (phiL_f_12 N)) inl0 N fi_f_12 [500000]
noncomputable def K_f_12 := (kFun (tabOf tabL) fi_f_12.res (kT (ofDs [tWant, .pair (.slice tByte) tInt]) sg_f_12 [(500000, .bx (.pair (.slice tByte) tInt))]))
noncomputable def its_f_12_1 (N : Nat) (n : Nat) : St → Option (Want × Rdr) := fun S' => iter [500000] (annAt fi_f_12 1) (code (E_f_12 N) (lpIn fi_f_12.body 0 1) 1) n S' (contOf (E_f_12 N) fi_f_12.body 0 1 K_f_12)
noncomputable def it_f_12_1 (N : Nat) (r_1 : Want) (r_13 : Int × Rdr) (n6 : Int) (t4c0 : Int) (t4c1 : Int) (n : Nat) : Int → (List Txt) → Option (Want × Rdr) := fun i7 x5c5a => its_f_12_1 N n (S_f_12_1 r_1 r_13 n6 t4c0 t4c1 i7 x5c5a)
theorem fe_f_12_1 (N : Nat) : it_f_12_1 N = f_12_1 N := funext fun r_1 => funext fun r_13 => funext fun n6 => funext fun t4c0 => funext fun t4c1 => funext (lp_all (by kernel_rfl) fun n => by
    show _ = f_12_1r N r_1 r_13 n6 t4c0 t4c1 (it_f_12_1 N r_1 r_13 n6 t4c0 t4c1 n)
    kernel_rfl)
theorem run_f_12 (N : Nat) (r : (List (Int)) × (Int)) (w : (Int) × ((Int) × ((List Txt) × ((List ((List UInt8) × ((Int) × (Int)))) × ((List Txt) × (List Txt)))))) : runST (ofDs [tWant, .pair (.slice tByte) tInt]) (tabOf tabL) (tabS (phiL_f_12 N)) inl0 N fi_f_12 sg_f_12 [⟨.pair (.slice tByte) tInt, r⟩, ⟨tWant, w⟩] = F.f_12 N r w := by
    show _ = F.f_12b N (F.f_12_1 N) r w
    rw [← fe_f_12_1 N]
    kernel_rfl
def sm_f_12 (N : Nat) : Summ := summOf [.bx (.pair (.slice tByte) tInt), .d tWant true] true [.d tWant true] [tWant, .pair (.slice tByte) tInt] (F.f_12 N)
theorem con_f_12 (N : Nat) : Contract Tryz.prog 132 (sm_f_12 N) := con_of (N := N) tabOK mixed (callOK_list (l := phiL_f_12 N) (allc rfl (con_f_2e N) (allc rfl (con_f_1g N) (allc rfl (con_f_20 N) (allc rfl (con_f_32 N) trivial))))) (inl0_ok _) ok_f_12 (by decide) fun r w => run_f_12 N r w
def an_f_2m : Nat → Option Ann := fun _ => none
noncomputable def fi_f_2m : FI := ⟨Tryz.f54.results.toList, bodyOf Tryz.f54.body, Tryz.f54.ntmps, an_f_2m⟩
theorem ok_f_2m : FnOK Tryz.prog 54 fi_f_2m := ⟨⟨Tryz.f54, Tryz.func54, by kernel_rfl, rfl, rfl, by kernel_rfl⟩, by kernel_rfl⟩
def phiL_f_2m (N : Nat) : List (Nat × Summ) := [(53, sm_f_1g N), (103, sm_f_38 N), (131, sm_f_27 N), (120, sm_f_2n N), (132, sm_f_12 N), (130, sm_f_2e N)]
def sg_f_2m : Summ := sigOf [.bx (.pair (.slice tByte) tInt), .d tBook true] true [.d tDo true]
theorem run_f_2m (N : Nat) (r : (List (Int)) × (Int)) (b : (List ((List UInt8) × (List UInt8))) × ((List ((List UInt8) × ((Int) × ((Int) × ((Int) × (List Txt)))))) × ((List Txt) × ((List (((Int) × ((Int) × ((List Txt) × ((List ((List UInt8) × ((Int) × (Int)))) × ((List Txt) × (List Txt)))))) × (Bool))) × (Int))))) : runST (ofDs [tDo, .pair (.slice tByte) tInt]) (tabOf tabL) (tabS (phiL_f_2m N)) inl0 N fi_f_2m sg_f_2m [⟨.pair (.slice tByte) tInt, r⟩, ⟨tBook, b⟩] = F.f_2m N r b := by kernel_rfl
def sm_f_2m (N : Nat) : Summ := summOf [.bx (.pair (.slice tByte) tInt), .d tBook true] true [.d tDo true] [tDo, .pair (.slice tByte) tInt] (F.f_2m N)
theorem con_f_2m (N : Nat) : Contract Tryz.prog 54 (sm_f_2m N) := con_of (N := N) tabOK mixed (callOK_list (l := phiL_f_2m N) (allc rfl (con_f_1g N) (allc rfl (con_f_38 N) (allc rfl (con_f_27 N) (allc rfl (con_f_2n N) (allc rfl (con_f_12 N) (allc rfl (con_f_2e N) trivial))))))) (inl0_ok _) ok_f_2m (by decide) fun r b => run_f_2m N r b
def an_f_37 : Nat → Option Ann := fun _ => none
noncomputable def fi_f_37 : FI := ⟨Tryz.f67.results.toList, bodyOf Tryz.f67.body, Tryz.f67.ntmps, an_f_37⟩
theorem ok_f_37 : FnOK Tryz.prog 67 fi_f_37 := ⟨⟨Tryz.f67, Tryz.func67, by kernel_rfl, rfl, rfl, by kernel_rfl⟩, by kernel_rfl⟩
def phiL_f_37 (N : Nat) : List (Nat × Summ) := []
def sg_f_37 : Summ := sigOf [.d tInt false, .d tInt false, .d tInt false] false [.d (.bool) false]
theorem run_f_37 (N : Nat) (n : Int) (low : Int) (high : Int) : runST (ofDs [.bool]) (tabOf tabL) (tabS (phiL_f_37 N)) inl0 N fi_f_37 sg_f_37 [⟨tInt, n⟩, ⟨tInt, low⟩, ⟨tInt, high⟩] = F.f_37 N n low high := by kernel_rfl
def sm_f_37 (N : Nat) : Summ := summOf [.d tInt false, .d tInt false, .d tInt false] false [.d (.bool) false] [.bool] (F.f_37 N)
theorem con_f_37 (N : Nat) : Contract Tryz.prog 67 (sm_f_37 N) := con_of (N := N) tabOK mixed (callOK_list (l := phiL_f_37 N) trivial) (inl0_ok _) ok_f_37 (by decide) fun n low high => run_f_37 N n low high
def an_f_1q : Nat → Option Ann
  | 0 => some ⟨{ fr := [(0, Dir.keep), (3, Dir.keep)], bx := [], os := [] }, [(0, { fr := [], bx := [], os := [] })], { fr := [(2, Dir.keep)], bx := [], os := [] }⟩
  | _ => none
noncomputable def fi_f_1q : FI := ⟨Tryz.f172.results.toList, bodyOf Tryz.f172.body, Tryz.f172.ntmps, an_f_1q⟩
theorem ok_f_1q : FnOK Tryz.prog 172 fi_f_1q := ⟨⟨Tryz.f172, Tryz.func172, by kernel_rfl, rfl, rfl, by kernel_rfl⟩, by kernel_rfl⟩
def phiL_f_1q (N : Nat) : List (Nat × Summ) := [(67, sm_f_37 N)]
def sg_f_1q : Summ := sigOf [.d (.str) false] false [.d (.bool) false]
def S_f_1q_0 (s : Txt) (i3 : Int) : St := ⟨[(0, .w (.one (.v Ty.str s))), (3, .w (.one (.v tInt i3)))], []⟩
noncomputable def E_f_1q (N : Nat) : Env := envOf (tabOf tabL) (tabS (phiL_f_1q N)) inl0 N fi_f_1q []
noncomputable def K_f_1q := (kFun (tabOf tabL) fi_f_1q.res (kT (ofDs [.bool]) sg_f_1q []))
noncomputable def its_f_1q_0 (N : Nat) (n : Nat) : St → Option Bool := fun S' => iter [] (annAt fi_f_1q 0) (code (E_f_1q N) (lpIn fi_f_1q.body 0 0) 0) n S' (contOf (E_f_1q N) fi_f_1q.body 0 0 K_f_1q)
noncomputable def it_f_1q_0 (N : Nat) (s : Txt) (n : Nat) : Int → Option Bool := fun i3 => its_f_1q_0 N n (S_f_1q_0 s i3)
theorem fe_f_1q_0 (N : Nat) : it_f_1q_0 N = f_1q_0 N := funext fun s => funext (lp_all (by kernel_rfl) fun n => by
    show _ = f_1q_0r N s (it_f_1q_0 N s n)
    kernel_rfl)
theorem run_f_1q (N : Nat) (s : List UInt8) : runST (ofDs [.bool]) (tabOf tabL) (tabS (phiL_f_1q N)) inl0 N fi_f_1q sg_f_1q [⟨.str, s⟩] = F.f_1q N s := by
    show _ = F.f_1qb N (F.f_1q_0 N) s
    rw [← fe_f_1q_0 N]
    kernel_rfl
def sm_f_1q (N : Nat) : Summ := summOf [.d (.str) false] false [.d (.bool) false] [.bool] (F.f_1q N)
theorem con_f_1q (N : Nat) : Contract Tryz.prog 172 (sm_f_1q N) := con_of (N := N) tabOK mixed (callOK_list (l := phiL_f_1q N) (allc rfl (con_f_37 N) trivial)) (inl0_ok _) ok_f_1q (by decide) fun s => run_f_1q N s
def an_f_1s : Nat → Option Ann
  | 0 => some ⟨{ fr := [(1, Dir.keep), (3, Dir.keep)], bx := [(1, [Dir.keep, Dir.keep, Dir.keep, Dir.keep, Dir.keep])], os := [] }, [(0, { fr := [], bx := [], os := [] })], { fr := [(2, Dir.keep)], bx := [], os := [] }⟩
  | _ => none
noncomputable def fi_f_1s : FI := ⟨Tryz.f121.results.toList, bodyOf Tryz.f121.body, Tryz.f121.ntmps, an_f_1s⟩
theorem ok_f_1s : FnOK Tryz.prog 121 fi_f_1s := ⟨⟨Tryz.f121, Tryz.func121, by kernel_rfl, rfl, rfl, by kernel_rfl⟩, by kernel_rfl⟩
def phiL_f_1s (N : Nat) : List (Nat × Summ) := [(172, sm_f_1q N)]
def sg_f_1s : Summ := sigOf [.d tBook true] false [.d (.bool) false]
def S_f_1s_0 (b : Book) (i3 : Int) : St := { fr := [(1, AV.w (V1.one (C.pb 1 0))), (3, .w (.one (.v tInt i3)))], H := [(1, Ob.box [C.v tFoe.slice b.1, C.v tSpot.slice b.2.1, C.v tTxts b.2.2.1, C.v tPart.slice b.2.2.2.1, C.v tInt b.2.2.2.2])] }
noncomputable def E_f_1s (N : Nat) : Env := envOf (tabOf tabL) (tabS (phiL_f_1s N)) inl0 N fi_f_1s []
noncomputable def K_f_1s := (kFun (tabOf tabL) fi_f_1s.res (kT (ofDs [.bool]) sg_f_1s []))
noncomputable def its_f_1s_0 (N : Nat) (n : Nat) : St → Option Bool := fun S' => iter [] (annAt fi_f_1s 0) (code (E_f_1s N) (lpIn fi_f_1s.body 0 0) 0) n S' (contOf (E_f_1s N) fi_f_1s.body 0 0 K_f_1s)
noncomputable def it_f_1s_0 (N : Nat) (b : Book) (n : Nat) : Int → Option Bool := fun i3 => its_f_1s_0 N n (S_f_1s_0 b i3)
theorem fe_f_1s_0 (N : Nat) : it_f_1s_0 N = f_1s_0 N := funext fun b => funext (lp_all (by kernel_rfl) fun n => by
    show _ = f_1s_0r N b (it_f_1s_0 N b n)
    kernel_rfl)
theorem run_f_1s (N : Nat) (b : (List ((List UInt8) × (List UInt8))) × ((List ((List UInt8) × ((Int) × ((Int) × ((Int) × (List Txt)))))) × ((List Txt) × ((List (((Int) × ((Int) × ((List Txt) × ((List ((List UInt8) × ((Int) × (Int)))) × ((List Txt) × (List Txt)))))) × (Bool))) × (Int))))) : runST (ofDs [.bool]) (tabOf tabL) (tabS (phiL_f_1s N)) inl0 N fi_f_1s sg_f_1s [⟨tBook, b⟩] = F.f_1s N b := by
    show _ = F.f_1sb N (F.f_1s_0 N) b
    rw [← fe_f_1s_0 N]
    kernel_rfl
def sm_f_1s (N : Nat) : Summ := summOf [.d tBook true] false [.d (.bool) false] [.bool] (F.f_1s N)
theorem con_f_1s (N : Nat) : Contract Tryz.prog 121 (sm_f_1s N) := con_of (N := N) tabOK mixed (callOK_list (l := phiL_f_1s N) (allc rfl (con_f_1q N) trivial)) (inl0_ok _) ok_f_1s (by decide) fun b => run_f_1s N b
def an_f_1f : Nat → Option Ann
  | 0 => some ⟨{ fr := [(0, Dir.keep), (5, Dir.keep)], bx := [], os := [] }, [(0, { fr := [], bx := [], os := [] })], { fr := [(4, Dir.keep)], bx := [], os := [] }⟩
  | _ => none
noncomputable def fi_f_1f : FI := ⟨Tryz.f122.results.toList, bodyOf Tryz.f122.body, Tryz.f122.ntmps, an_f_1f⟩
theorem ok_f_1f : FnOK Tryz.prog 122 fi_f_1f := ⟨⟨Tryz.f122, Tryz.func122, by kernel_rfl, rfl, rfl, by kernel_rfl⟩, by kernel_rfl⟩
def phiL_f_1f (N : Nat) : List (Nat × Summ) := [(172, sm_f_1q N)]
def sg_f_1f : Summ := sigOf [.d tTxts false, .d tInt false] false [.d (.bool) false]
def S_f_1f_0 (list : List Txt) (i5 : Int) : St := ⟨[(0, .w (.one (.v tTxts list))), (5, .w (.one (.v tInt i5)))], []⟩
noncomputable def E_f_1f (N : Nat) : Env := envOf (tabOf tabL) (tabS (phiL_f_1f N)) inl0 N fi_f_1f []
noncomputable def K_f_1f := (kFun (tabOf tabL) fi_f_1f.res (kT (ofDs [.bool]) sg_f_1f []))
noncomputable def its_f_1f_0 (N : Nat) (n : Nat) : St → Option Bool := fun S' => iter [] (annAt fi_f_1f 0) (code (E_f_1f N) (lpIn fi_f_1f.body 0 0) 0) n S' (contOf (E_f_1f N) fi_f_1f.body 0 0 K_f_1f)
noncomputable def it_f_1f_0 (N : Nat) (list : List Txt) (n : Nat) : Int → Option Bool := fun i5 => its_f_1f_0 N n (S_f_1f_0 list i5)
theorem fe_f_1f_0 (N : Nat) : it_f_1f_0 N = f_1f_0 N := funext fun list => funext (lp_all (by kernel_rfl) fun n => by
    show _ = f_1f_0r N list (it_f_1f_0 N list n)
    kernel_rfl)
theorem run_f_1f (N : Nat) (list : List (List UInt8)) (most : Int) : runST (ofDs [.bool]) (tabOf tabL) (tabS (phiL_f_1f N)) inl0 N fi_f_1f sg_f_1f [⟨tTxts, list⟩, ⟨tInt, most⟩] = F.f_1f N list most := by
    show _ = F.f_1fb N (F.f_1f_0 N) list most
    rw [← fe_f_1f_0 N]
    kernel_rfl
def sm_f_1f (N : Nat) : Summ := summOf [.d tTxts false, .d tInt false] false [.d (.bool) false] [.bool] (F.f_1f N)
theorem con_f_1f (N : Nat) : Contract Tryz.prog 122 (sm_f_1f N) := con_of (N := N) tabOK mixed (callOK_list (l := phiL_f_1f N) (allc rfl (con_f_1q N) trivial)) (inl0_ok _) ok_f_1f (by decide) fun list most => run_f_1f N list most
def an_f_2g : Nat → Option Ann
  | 0 => some ⟨{ fr := [(1, Dir.keep), (2, Dir.keep), (3, Dir.keep), (7, Dir.keep)], bx := [(3, [Dir.keep, Dir.keep, Dir.keep, Dir.keep, Dir.keep])], os := [] }, [(0, { fr := [], bx := [], os := [] })], { fr := [(6, Dir.keep)], bx := [], os := [] }⟩
  | _ => none
noncomputable def fi_f_2g : FI := ⟨Tryz.f180.results.toList, bodyOf Tryz.f180.body, Tryz.f180.ntmps, an_f_2g⟩
theorem ok_f_2g : FnOK Tryz.prog 180 fi_f_2g := ⟨⟨Tryz.f180, Tryz.func180, by kernel_rfl, rfl, rfl, by kernel_rfl⟩, by kernel_rfl⟩
def phiL_f_2g (N : Nat) : List (Nat × Summ) := []
def sg_f_2g : Summ := sigOf [.d tBook true, .d (.str) false, .d (.str) false] false [.d (.bool) false]
def S_f_2g_0 (b : Book) (x : Txt) (y : Txt) (i7 : Int) : St := { fr := [(1, .w (.one (.v Ty.str x))), (2, .w (.one (.v Ty.str y))), (3, AV.w (V1.one (C.pb 3 0))), (7, .w (.one (.v tInt i7)))], H := [(3, Ob.box [C.v tFoe.slice b.1, C.v tSpot.slice b.2.1, C.v tTxts b.2.2.1, C.v tPart.slice b.2.2.2.1, C.v tInt b.2.2.2.2])] }
noncomputable def E_f_2g (N : Nat) : Env := envOf (tabOf tabL) (tabS (phiL_f_2g N)) inl0 N fi_f_2g []
noncomputable def K_f_2g := (kFun (tabOf tabL) fi_f_2g.res (kT (ofDs [.bool]) sg_f_2g []))
noncomputable def its_f_2g_0 (N : Nat) (n : Nat) : St → Option Bool := fun S' => iter [] (annAt fi_f_2g 0) (code (E_f_2g N) (lpIn fi_f_2g.body 0 0) 0) n S' (contOf (E_f_2g N) fi_f_2g.body 0 0 K_f_2g)
noncomputable def it_f_2g_0 (N : Nat) (b : Book) (x : Txt) (y : Txt) (n : Nat) : Int → Option Bool := fun i7 => its_f_2g_0 N n (S_f_2g_0 b x y i7)
theorem fe_f_2g_0 (N : Nat) : it_f_2g_0 N = f_2g_0 N := funext fun b => funext fun x => funext fun y => funext (lp_all (by kernel_rfl) fun n => by
    show _ = f_2g_0r N b x y (it_f_2g_0 N b x y n)
    kernel_rfl)
theorem run_f_2g (N : Nat) (b : (List ((List UInt8) × (List UInt8))) × ((List ((List UInt8) × ((Int) × ((Int) × ((Int) × (List Txt)))))) × ((List Txt) × ((List (((Int) × ((Int) × ((List Txt) × ((List ((List UInt8) × ((Int) × (Int)))) × ((List Txt) × (List Txt)))))) × (Bool))) × (Int))))) (x : List UInt8) (y : List UInt8) : runST (ofDs [.bool]) (tabOf tabL) (tabS (phiL_f_2g N)) inl0 N fi_f_2g sg_f_2g [⟨tBook, b⟩, ⟨.str, x⟩, ⟨.str, y⟩] = F.f_2g N b x y := by
    show _ = F.f_2gb N (F.f_2g_0 N) b x y
    rw [← fe_f_2g_0 N]
    kernel_rfl
def sm_f_2g (N : Nat) : Summ := summOf [.d tBook true, .d (.str) false, .d (.str) false] false [.d (.bool) false] [.bool] (F.f_2g N)
theorem con_f_2g (N : Nat) : Contract Tryz.prog 180 (sm_f_2g N) := con_of (N := N) tabOK mixed (callOK_list (l := phiL_f_2g N) trivial) (inl0_ok _) ok_f_2g (by decide) fun b x y => run_f_2g N b x y
def an_f_22 : Nat → Option Ann
  | 0 => some ⟨{ fr := [(1, Dir.keep), (2, Dir.keep), (3, Dir.keep), (7, Dir.keep)], bx := [(3, [Dir.keep, Dir.keep, Dir.keep, Dir.keep, Dir.keep])], os := [] }, [(0, { fr := [], bx := [], os := [] })], { fr := [(6, Dir.keep)], bx := [], os := [] }⟩
  | _ => none
noncomputable def fi_f_22 : FI := ⟨Tryz.f173.results.toList, bodyOf Tryz.f173.body, Tryz.f173.ntmps, an_f_22⟩
theorem ok_f_22 : FnOK Tryz.prog 173 fi_f_22 := ⟨⟨Tryz.f173, Tryz.func173, by kernel_rfl, rfl, rfl, by kernel_rfl⟩, by kernel_rfl⟩
def phiL_f_22 (N : Nat) : List (Nat × Summ) := [(180, sm_f_2g N)]
def sg_f_22 : Summ := sigOf [.d tBook true, .d (.str) false, .d tTxts false] false [.d (.bool) false]
def S_f_22_0 (b : Book) (stuff : Txt) (may : List Txt) (i7 : Int) : St := { fr := [(1, .w (.one (.v Ty.str stuff))), (2, .w (.one (.v tTxts may))), (3, AV.w (V1.one (C.pb 3 0))), (7, .w (.one (.v tInt i7)))], H := [(3, Ob.box [C.v tFoe.slice b.1, C.v tSpot.slice b.2.1, C.v tTxts b.2.2.1, C.v tPart.slice b.2.2.2.1, C.v tInt b.2.2.2.2])] }
noncomputable def E_f_22 (N : Nat) : Env := envOf (tabOf tabL) (tabS (phiL_f_22 N)) inl0 N fi_f_22 []
noncomputable def K_f_22 := (kFun (tabOf tabL) fi_f_22.res (kT (ofDs [.bool]) sg_f_22 []))
noncomputable def its_f_22_0 (N : Nat) (n : Nat) : St → Option Bool := fun S' => iter [] (annAt fi_f_22 0) (code (E_f_22 N) (lpIn fi_f_22.body 0 0) 0) n S' (contOf (E_f_22 N) fi_f_22.body 0 0 K_f_22)
noncomputable def it_f_22_0 (N : Nat) (b : Book) (stuff : Txt) (may : List Txt) (n : Nat) : Int → Option Bool := fun i7 => its_f_22_0 N n (S_f_22_0 b stuff may i7)
theorem fe_f_22_0 (N : Nat) : it_f_22_0 N = f_22_0 N := funext fun b => funext fun stuff => funext fun may => funext (lp_all (by kernel_rfl) fun n => by
    show _ = f_22_0r N b stuff may (it_f_22_0 N b stuff may n)
    kernel_rfl)
theorem run_f_22 (N : Nat) (b : (List ((List UInt8) × (List UInt8))) × ((List ((List UInt8) × ((Int) × ((Int) × ((Int) × (List Txt)))))) × ((List Txt) × ((List (((Int) × ((Int) × ((List Txt) × ((List ((List UInt8) × ((Int) × (Int)))) × ((List Txt) × (List Txt)))))) × (Bool))) × (Int))))) (stuff : List UInt8) (may : List (List UInt8)) : runST (ofDs [.bool]) (tabOf tabL) (tabS (phiL_f_22 N)) inl0 N fi_f_22 sg_f_22 [⟨tBook, b⟩, ⟨.str, stuff⟩, ⟨tTxts, may⟩] = F.f_22 N b stuff may := by
    show _ = F.f_22b N (F.f_22_0 N) b stuff may
    rw [← fe_f_22_0 N]
    kernel_rfl
def sm_f_22 (N : Nat) : Summ := summOf [.d tBook true, .d (.str) false, .d tTxts false] false [.d (.bool) false] [.bool] (F.f_22 N)
theorem con_f_22 (N : Nat) : Contract Tryz.prog 173 (sm_f_22 N) := con_of (N := N) tabOK mixed (callOK_list (l := phiL_f_22 N) (allc rfl (con_f_2g N) trivial)) (inl0_ok _) ok_f_22 (by decide) fun b stuff may => run_f_22 N b stuff may
def an_f_1u : Nat → Option Ann
  | 0 => some ⟨{ fr := [(2, Dir.keep), (3, Dir.keep), (5, Dir.keep)], bx := [(2, [Dir.keep, Dir.keep, Dir.keep, Dir.keep, Dir.keep]), (3, [Dir.keep, Dir.keep, Dir.keep, Dir.keep, Dir.keep])], os := [] }, [(0, { fr := [], bx := [], os := [] })], { fr := [(4, Dir.keep)], bx := [], os := [] }⟩
  | _ => none
noncomputable def fi_f_1u : FI := ⟨Tryz.f123.results.toList, bodyOf Tryz.f123.body, Tryz.f123.ntmps, an_f_1u⟩
theorem ok_f_1u : FnOK Tryz.prog 123 fi_f_1u := ⟨⟨Tryz.f123, Tryz.func123, by kernel_rfl, rfl, rfl, by kernel_rfl⟩, by kernel_rfl⟩
def phiL_f_1u (N : Nat) : List (Nat × Summ) := [(172, sm_f_1q N), (67, sm_f_37 N), (122, sm_f_1f N), (173, sm_f_22 N)]
def sg_f_1u : Summ := sigOf [.d tBook true, .d tSpot true] false [.d (.bool) false]
def S_f_1u_0 (b : Book) (s : Spot) (i5 : Int) : St := { fr := [(2, AV.w (V1.one (C.pb 2 0))), (3, AV.w (V1.one (C.pb 3 0))), (5, .w (.one (.v tInt i5)))], H := [(2, Ob.box [C.v tFoe.slice b.1, C.v tSpot.slice b.2.1, C.v tTxts b.2.2.1, C.v tPart.slice b.2.2.2.1, C.v tInt b.2.2.2.2]), (3, Ob.box [C.v Ty.str s.1, C.v tInt s.2.1, C.v tInt s.2.2.1, C.v tInt s.2.2.2.1, C.v tTxts s.2.2.2.2])] }
noncomputable def E_f_1u (N : Nat) : Env := envOf (tabOf tabL) (tabS (phiL_f_1u N)) inl0 N fi_f_1u []
noncomputable def K_f_1u := (kFun (tabOf tabL) fi_f_1u.res (kT (ofDs [.bool]) sg_f_1u []))
noncomputable def its_f_1u_0 (N : Nat) (n : Nat) : St → Option Bool := fun S' => iter [] (annAt fi_f_1u 0) (code (E_f_1u N) (lpIn fi_f_1u.body 0 0) 0) n S' (contOf (E_f_1u N) fi_f_1u.body 0 0 K_f_1u)
noncomputable def it_f_1u_0 (N : Nat) (b : Book) (s : Spot) (n : Nat) : Int → Option Bool := fun i5 => its_f_1u_0 N n (S_f_1u_0 b s i5)
theorem fe_f_1u_0 (N : Nat) : it_f_1u_0 N = f_1u_0 N := funext fun b => funext fun s => funext (lp_all (by kernel_rfl) fun n => by
    show _ = f_1u_0r N b s (it_f_1u_0 N b s n)
    kernel_rfl)
theorem run_f_1u (N : Nat) (b : (List ((List UInt8) × (List UInt8))) × ((List ((List UInt8) × ((Int) × ((Int) × ((Int) × (List Txt)))))) × ((List Txt) × ((List (((Int) × ((Int) × ((List Txt) × ((List ((List UInt8) × ((Int) × (Int)))) × ((List Txt) × (List Txt)))))) × (Bool))) × (Int))))) (s : (List UInt8) × ((Int) × ((Int) × ((Int) × (List Txt))))) : runST (ofDs [.bool]) (tabOf tabL) (tabS (phiL_f_1u N)) inl0 N fi_f_1u sg_f_1u [⟨tBook, b⟩, ⟨tSpot, s⟩] = F.f_1u N b s := by
    show _ = F.f_1ub N (F.f_1u_0 N) b s
    rw [← fe_f_1u_0 N]
    kernel_rfl
def sm_f_1u (N : Nat) : Summ := summOf [.d tBook true, .d tSpot true] false [.d (.bool) false] [.bool] (F.f_1u N)
theorem con_f_1u (N : Nat) : Contract Tryz.prog 123 (sm_f_1u N) := con_of (N := N) tabOK mixed (callOK_list (l := phiL_f_1u N) (allc rfl (con_f_1q N) (allc rfl (con_f_37 N) (allc rfl (con_f_1f N) (allc rfl (con_f_22 N) trivial))))) (inl0_ok _) ok_f_1u (by decide) fun b s => run_f_1u N b s
def an_f_1r : Nat → Option Ann
  | 0 => some ⟨{ fr := [(1, Dir.keep), (3, Dir.keep)], bx := [(1, [Dir.keep, Dir.keep, Dir.keep, Dir.keep, Dir.keep, Dir.keep])], os := [] }, [(0, { fr := [], bx := [], os := [] })], { fr := [(2, Dir.keep)], bx := [], os := [] }⟩
  | _ => none
noncomputable def fi_f_1r : FI := ⟨Tryz.f126.results.toList, bodyOf Tryz.f126.body, Tryz.f126.ntmps, an_f_1r⟩
theorem ok_f_1r : FnOK Tryz.prog 126 fi_f_1r := ⟨⟨Tryz.f126, Tryz.func126, by kernel_rfl, rfl, rfl, by kernel_rfl⟩, by kernel_rfl⟩
def phiL_f_1r (N : Nat) : List (Nat × Summ) := [(172, sm_f_1q N), (67, sm_f_37 N)]
def sg_f_1r : Summ := sigOf [.d tWant true] false [.d (.bool) false]
def S_f_1r_0 (w : Want) (i3 : Int) : St := { fr := [(1, AV.w (V1.one (C.pb 1 0))), (3, .w (.one (.v tInt i3)))], H := [(1, Ob.box [C.v tInt w.1, C.v tInt w.2.1, C.v tTxts w.2.2.1, C.v tUse.slice w.2.2.2.1, C.v tTxts w.2.2.2.2.1, C.v tTxts w.2.2.2.2.2])] }
noncomputable def E_f_1r (N : Nat) : Env := envOf (tabOf tabL) (tabS (phiL_f_1r N)) inl0 N fi_f_1r []
noncomputable def K_f_1r := (kFun (tabOf tabL) fi_f_1r.res (kT (ofDs [.bool]) sg_f_1r []))
noncomputable def its_f_1r_0 (N : Nat) (n : Nat) : St → Option Bool := fun S' => iter [] (annAt fi_f_1r 0) (code (E_f_1r N) (lpIn fi_f_1r.body 0 0) 0) n S' (contOf (E_f_1r N) fi_f_1r.body 0 0 K_f_1r)
noncomputable def it_f_1r_0 (N : Nat) (w : Want) (n : Nat) : Int → Option Bool := fun i3 => its_f_1r_0 N n (S_f_1r_0 w i3)
theorem fe_f_1r_0 (N : Nat) : it_f_1r_0 N = f_1r_0 N := funext fun w => funext (lp_all (by kernel_rfl) fun n => by
    show _ = f_1r_0r N w (it_f_1r_0 N w n)
    kernel_rfl)
theorem run_f_1r (N : Nat) (w : (Int) × ((Int) × ((List Txt) × ((List ((List UInt8) × ((Int) × (Int)))) × ((List Txt) × (List Txt)))))) : runST (ofDs [.bool]) (tabOf tabL) (tabS (phiL_f_1r N)) inl0 N fi_f_1r sg_f_1r [⟨tWant, w⟩] = F.f_1r N w := by
    show _ = F.f_1rb N (F.f_1r_0 N) w
    rw [← fe_f_1r_0 N]
    kernel_rfl
def sm_f_1r (N : Nat) : Summ := summOf [.d tWant true] false [.d (.bool) false] [.bool] (F.f_1r N)
theorem con_f_1r (N : Nat) : Contract Tryz.prog 126 (sm_f_1r N) := con_of (N := N) tabOK mixed (callOK_list (l := phiL_f_1r N) (allc rfl (con_f_1q N) (allc rfl (con_f_37 N) trivial))) (inl0_ok _) ok_f_1r (by decide) fun w => run_f_1r N w
def an_f_21 : Nat → Option Ann
  | 0 => some ⟨{ fr := [(0, Dir.keep), (1, Dir.keep), (5, Dir.keep)], bx := [], os := [] }, [(0, { fr := [], bx := [], os := [] })], { fr := [(4, Dir.keep)], bx := [], os := [] }⟩
  | _ => none
noncomputable def fi_f_21 : FI := ⟨Tryz.f107.results.toList, bodyOf Tryz.f107.body, Tryz.f107.ntmps, an_f_21⟩
theorem ok_f_21 : FnOK Tryz.prog 107 fi_f_21 := ⟨⟨Tryz.f107, Tryz.func107, by kernel_rfl, rfl, rfl, by kernel_rfl⟩, by kernel_rfl⟩
def phiL_f_21 (N : Nat) : List (Nat × Summ) := [(102, sm_f_2z N)]
def sg_f_21 : Summ := sigOf [.d tTxts false, .d tTxts false] false [.d (.bool) false]
def S_f_21_0 (a : List Txt) (b : List Txt) (i5 : Int) : St := ⟨[(0, .w (.one (.v tTxts a))), (1, .w (.one (.v tTxts b))), (5, .w (.one (.v tInt i5)))], []⟩
noncomputable def E_f_21 (N : Nat) : Env := envOf (tabOf tabL) (tabS (phiL_f_21 N)) inl0 N fi_f_21 []
noncomputable def K_f_21 := (kFun (tabOf tabL) fi_f_21.res (kT (ofDs [.bool]) sg_f_21 []))
noncomputable def its_f_21_0 (N : Nat) (n : Nat) : St → Option Bool := fun S' => iter [] (annAt fi_f_21 0) (code (E_f_21 N) (lpIn fi_f_21.body 0 0) 0) n S' (contOf (E_f_21 N) fi_f_21.body 0 0 K_f_21)
noncomputable def it_f_21_0 (N : Nat) (a : List Txt) (b : List Txt) (n : Nat) : Int → Option Bool := fun i5 => its_f_21_0 N n (S_f_21_0 a b i5)
theorem fe_f_21_0 (N : Nat) : it_f_21_0 N = f_21_0 N := funext fun a => funext fun b => funext (lp_all (by kernel_rfl) fun n => by
    show _ = f_21_0r N a b (it_f_21_0 N a b n)
    kernel_rfl)
theorem run_f_21 (N : Nat) (a : List (List UInt8)) (b : List (List UInt8)) : runST (ofDs [.bool]) (tabOf tabL) (tabS (phiL_f_21 N)) inl0 N fi_f_21 sg_f_21 [⟨tTxts, a⟩, ⟨tTxts, b⟩] = F.f_21 N a b := by
    show _ = F.f_21b N (F.f_21_0 N) a b
    rw [← fe_f_21_0 N]
    kernel_rfl
def sm_f_21 (N : Nat) : Summ := summOf [.d tTxts false, .d tTxts false] false [.d (.bool) false] [.bool] (F.f_21 N)
theorem con_f_21 (N : Nat) : Contract Tryz.prog 107 (sm_f_21 N) := con_of (N := N) tabOK mixed (callOK_list (l := phiL_f_21 N) (allc rfl (con_f_2z N) trivial)) (inl0_ok _) ok_f_21 (by decide) fun a b => run_f_21 N a b
def an_f_11 : Nat → Option Ann := fun _ => none
noncomputable def fi_f_11 : FI := ⟨Tryz.f47.results.toList, bodyOf Tryz.f47.body, Tryz.f47.ntmps, an_f_11⟩
theorem ok_f_11 : FnOK Tryz.prog 47 fi_f_11 := ⟨⟨Tryz.f47, Tryz.func47, by kernel_rfl, rfl, rfl, by kernel_rfl⟩, by kernel_rfl⟩
def phiL_f_11 (N : Nat) : List (Nat × Summ) := [(67, sm_f_37 N), (126, sm_f_1r N), (122, sm_f_1f N), (107, sm_f_21 N)]
def sg_f_11 : Summ := sigOf [.d tWant true] false [.d (.bool) false]
theorem run_f_11 (N : Nat) (w : (Int) × ((Int) × ((List Txt) × ((List ((List UInt8) × ((Int) × (Int)))) × ((List Txt) × (List Txt)))))) : runST (ofDs [.bool]) (tabOf tabL) (tabS (phiL_f_11 N)) inl0 N fi_f_11 sg_f_11 [⟨tWant, w⟩] = F.f_11 N w := by kernel_rfl
def sm_f_11 (N : Nat) : Summ := summOf [.d tWant true] false [.d (.bool) false] [.bool] (F.f_11 N)
theorem con_f_11 (N : Nat) : Contract Tryz.prog 47 (sm_f_11 N) := con_of (N := N) tabOK mixed (callOK_list (l := phiL_f_11 N) (allc rfl (con_f_37 N) (allc rfl (con_f_1r N) (allc rfl (con_f_1f N) (allc rfl (con_f_21 N) trivial))))) (inl0_ok _) ok_f_11 (by decide) fun w => run_f_11 N w
def an_f_2i : Nat → Option Ann
  | 0 => some ⟨{ fr := [(1, Dir.keep), (2, Dir.keep), (5, Dir.keep)], bx := [(2, [Dir.keep, Dir.keep, Dir.keep, Dir.keep, Dir.keep])], os := [] }, [(0, { fr := [], bx := [], os := [] })], { fr := [(4, Dir.keep)], bx := [], os := [] }⟩
  | _ => none
noncomputable def fi_f_2i : FI := ⟨Tryz.f62.results.toList, bodyOf Tryz.f62.body, Tryz.f62.ntmps, an_f_2i⟩
theorem ok_f_2i : FnOK Tryz.prog 62 fi_f_2i := ⟨⟨Tryz.f62, Tryz.func62, by kernel_rfl, rfl, rfl, by kernel_rfl⟩, by kernel_rfl⟩
def phiL_f_2i (N : Nat) : List (Nat × Summ) := []
def sg_f_2i : Summ := sigOf [.d tBook true, .d (.str) false] false [.d tInt false]
def S_f_2i_0 (b : Book) (name : Txt) (i5 : Int) : St := { fr := [(1, .w (.one (.v Ty.str name))), (2, AV.w (V1.one (C.pb 2 0))), (5, .w (.one (.v tInt i5)))], H := [(2, Ob.box [C.v tFoe.slice b.1, C.v tSpot.slice b.2.1, C.v tTxts b.2.2.1, C.v tPart.slice b.2.2.2.1, C.v tInt b.2.2.2.2])] }
noncomputable def E_f_2i (N : Nat) : Env := envOf (tabOf tabL) (tabS (phiL_f_2i N)) inl0 N fi_f_2i []
noncomputable def K_f_2i := (kFun (tabOf tabL) fi_f_2i.res (kT (ofDs [tInt]) sg_f_2i []))
noncomputable def its_f_2i_0 (N : Nat) (n : Nat) : St → Option Int := fun S' => iter [] (annAt fi_f_2i 0) (code (E_f_2i N) (lpIn fi_f_2i.body 0 0) 0) n S' (contOf (E_f_2i N) fi_f_2i.body 0 0 K_f_2i)
noncomputable def it_f_2i_0 (N : Nat) (b : Book) (name : Txt) (n : Nat) : Int → Option Int := fun i5 => its_f_2i_0 N n (S_f_2i_0 b name i5)
theorem fe_f_2i_0 (N : Nat) : it_f_2i_0 N = f_2i_0 N := funext fun b => funext fun name => funext (lp_all (by kernel_rfl) fun n => by
    show _ = f_2i_0r N b name (it_f_2i_0 N b name n)
    kernel_rfl)
theorem run_f_2i (N : Nat) (b : (List ((List UInt8) × (List UInt8))) × ((List ((List UInt8) × ((Int) × ((Int) × ((Int) × (List Txt)))))) × ((List Txt) × ((List (((Int) × ((Int) × ((List Txt) × ((List ((List UInt8) × ((Int) × (Int)))) × ((List Txt) × (List Txt)))))) × (Bool))) × (Int))))) (name : List UInt8) : runST (ofDs [tInt]) (tabOf tabL) (tabS (phiL_f_2i N)) inl0 N fi_f_2i sg_f_2i [⟨tBook, b⟩, ⟨.str, name⟩] = F.f_2i N b name := by
    show _ = F.f_2ib N (F.f_2i_0 N) b name
    rw [← fe_f_2i_0 N]
    kernel_rfl
def sm_f_2i (N : Nat) : Summ := summOf [.d tBook true, .d (.str) false] false [.d tInt false] [tInt] (F.f_2i N)
theorem con_f_2i (N : Nat) : Contract Tryz.prog 62 (sm_f_2i N) := con_of (N := N) tabOK mixed (callOK_list (l := phiL_f_2i N) trivial) (inl0_ok _) ok_f_2i (by decide) fun b name => run_f_2i N b name
def an_f_23 : Nat → Option Ann
  | 0 => some ⟨{ fr := [(2, Dir.keep), (3, Dir.keep), (5, Dir.keep)], bx := [(2, [Dir.keep, Dir.keep, Dir.keep, Dir.keep, Dir.keep]), (3, [Dir.keep, Dir.keep, Dir.keep, Dir.keep, Dir.keep, Dir.keep])], os := [] }, [(0, { fr := [(2, Dir.keep), (3, Dir.keep)], bx := [(2, [Dir.keep, Dir.keep, Dir.keep, Dir.keep, Dir.keep]), (3, [Dir.keep, Dir.keep, Dir.keep, Dir.keep, Dir.keep, Dir.keep])], os := [] })], { fr := [(4, Dir.keep)], bx := [], os := [] }⟩
  | 2 => some ⟨{ fr := [(2, Dir.keep), (3, Dir.keep), (6, Dir.keep)], bx := [(2, [Dir.keep, Dir.keep, Dir.keep, Dir.keep, Dir.keep]), (3, [Dir.keep, Dir.keep, Dir.keep, Dir.keep, Dir.keep, Dir.keep])], os := [] }, [(2, { fr := [(2, Dir.keep), (3, Dir.keep)], bx := [(2, [Dir.keep, Dir.keep, Dir.keep, Dir.keep, Dir.keep]), (3, [Dir.keep, Dir.keep, Dir.keep, Dir.keep, Dir.keep, Dir.keep])], os := [] })], { fr := [(4, Dir.keep)], bx := [], os := [] }⟩
  | 4 => some ⟨{ fr := [(2, Dir.keep), (3, Dir.keep), (7, Dir.keep)], bx := [(2, [Dir.keep, Dir.keep, Dir.keep, Dir.keep, Dir.keep]), (3, [Dir.keep, Dir.keep, Dir.keep, Dir.keep, Dir.keep, Dir.keep])], os := [] }, [(4, { fr := [], bx := [], os := [] })], { fr := [(4, Dir.keep)], bx := [], os := [] }⟩
  | _ => none
noncomputable def fi_f_23 : FI := ⟨Tryz.f105.results.toList, bodyOf Tryz.f105.body, Tryz.f105.ntmps, an_f_23⟩
theorem ok_f_23 : FnOK Tryz.prog 105 fi_f_23 := ⟨⟨Tryz.f105, Tryz.func105, by kernel_rfl, rfl, rfl, by kernel_rfl⟩, by kernel_rfl⟩
def phiL_f_23 (N : Nat) : List (Nat × Summ) := [(62, sm_f_2i N), (102, sm_f_2z N)]
def sg_f_23 : Summ := sigOf [.d tBook true, .d tWant true] false [.d (.bool) false]
def S_f_23_4 (b : Book) (w : Want) (i7 : Int) : St := { fr := [(2, AV.w (V1.one (C.pb 2 0))), (3, AV.w (V1.one (C.pb 3 0))), (7, .w (.one (.v tInt i7)))], H := [(2, Ob.box [C.v tFoe.slice b.1, C.v tSpot.slice b.2.1, C.v tTxts b.2.2.1, C.v tPart.slice b.2.2.2.1, C.v tInt b.2.2.2.2]), (3, Ob.box [C.v tInt w.1, C.v tInt w.2.1, C.v tTxts w.2.2.1, C.v tUse.slice w.2.2.2.1, C.v tTxts w.2.2.2.2.1, C.v tTxts w.2.2.2.2.2])] }
def S_f_23_2 (b : Book) (w : Want) (i6 : Int) : St := { fr := [(2, AV.w (V1.one (C.pb 2 0))), (3, AV.w (V1.one (C.pb 3 0))), (6, .w (.one (.v tInt i6)))], H := [(2, Ob.box [C.v tFoe.slice b.1, C.v tSpot.slice b.2.1, C.v tTxts b.2.2.1, C.v tPart.slice b.2.2.2.1, C.v tInt b.2.2.2.2]), (3, Ob.box [C.v tInt w.1, C.v tInt w.2.1, C.v tTxts w.2.2.1, C.v tUse.slice w.2.2.2.1, C.v tTxts w.2.2.2.2.1, C.v tTxts w.2.2.2.2.2])] }
def S_f_23_0 (b : Book) (w : Want) (i5 : Int) : St := { fr := [(2, AV.w (V1.one (C.pb 2 0))), (3, AV.w (V1.one (C.pb 3 0))), (5, .w (.one (.v tInt i5)))], H := [(2, Ob.box [C.v tFoe.slice b.1, C.v tSpot.slice b.2.1, C.v tTxts b.2.2.1, C.v tPart.slice b.2.2.2.1, C.v tInt b.2.2.2.2]), (3, Ob.box [C.v tInt w.1, C.v tInt w.2.1, C.v tTxts w.2.2.1, C.v tUse.slice w.2.2.2.1, C.v tTxts w.2.2.2.2.1, C.v tTxts w.2.2.2.2.2])] }
noncomputable def E_f_23 (N : Nat) : Env := envOf (tabOf tabL) (tabS (phiL_f_23 N)) inl0 N fi_f_23 []
noncomputable def K_f_23 := (kFun (tabOf tabL) fi_f_23.res (kT (ofDs [.bool]) sg_f_23 []))
noncomputable def its_f_23_4 (N : Nat) (n : Nat) : St → Option Bool := fun S' => iter [] (annAt fi_f_23 4) (code (E_f_23 N) (lpIn fi_f_23.body 0 4) 4) n S' (contOf (E_f_23 N) fi_f_23.body 0 4 K_f_23)
noncomputable def it_f_23_4 (N : Nat) (b : Book) (w : Want) (n : Nat) : Int → Option Bool := fun i7 => its_f_23_4 N n (S_f_23_4 b w i7)
theorem fe_f_23_4 (N : Nat) : it_f_23_4 N = f_23_4 N := funext fun b => funext fun w => funext (lp_all (by kernel_rfl) fun n => by
    show _ = f_23_4r N b w (it_f_23_4 N b w n)
    kernel_rfl)
noncomputable def its_f_23_2 (N : Nat) (n : Nat) : St → Option Bool := fun S' => iter [] (annAt fi_f_23 2) (code (E_f_23 N) (lpIn fi_f_23.body 0 2) 2) n S' (contOf (E_f_23 N) fi_f_23.body 0 2 K_f_23)
noncomputable def it_f_23_2 (N : Nat) (b : Book) (w : Want) (n : Nat) : Int → Option Bool := fun i6 => its_f_23_2 N n (S_f_23_2 b w i6)
theorem fe_f_23_2 (N : Nat) : it_f_23_2 N = f_23_2 N := funext fun b => funext fun w => funext (lp_all (by kernel_rfl) fun n => by
    show _ = f_23_2r N (f_23_4 N) b w (it_f_23_2 N b w n)
    rw [show f_23_4 N = it_f_23_4 N from (fe_f_23_4 N).symm]
    kernel_rfl)
noncomputable def its_f_23_0 (N : Nat) (n : Nat) : St → Option Bool := fun S' => iter [] (annAt fi_f_23 0) (code (E_f_23 N) (lpIn fi_f_23.body 0 0) 0) n S' (contOf (E_f_23 N) fi_f_23.body 0 0 K_f_23)
noncomputable def it_f_23_0 (N : Nat) (b : Book) (w : Want) (n : Nat) : Int → Option Bool := fun i5 => its_f_23_0 N n (S_f_23_0 b w i5)
theorem fe_f_23_0 (N : Nat) : it_f_23_0 N = f_23_0 N := funext fun b => funext fun w => funext (lp_all (by kernel_rfl) fun n => by
    show _ = f_23_0r N (f_23_2 N) b w (it_f_23_0 N b w n)
    rw [show f_23_2 N = it_f_23_2 N from (fe_f_23_2 N).symm]
    kernel_rfl)
theorem run_f_23 (N : Nat) (b : (List ((List UInt8) × (List UInt8))) × ((List ((List UInt8) × ((Int) × ((Int) × ((Int) × (List Txt)))))) × ((List Txt) × ((List (((Int) × ((Int) × ((List Txt) × ((List ((List UInt8) × ((Int) × (Int)))) × ((List Txt) × (List Txt)))))) × (Bool))) × (Int))))) (w : (Int) × ((Int) × ((List Txt) × ((List ((List UInt8) × ((Int) × (Int)))) × ((List Txt) × (List Txt)))))) : runST (ofDs [.bool]) (tabOf tabL) (tabS (phiL_f_23 N)) inl0 N fi_f_23 sg_f_23 [⟨tBook, b⟩, ⟨tWant, w⟩] = F.f_23 N b w := by
    show _ = F.f_23b N (F.f_23_0 N) b w
    rw [← fe_f_23_0 N]
    kernel_rfl
def sm_f_23 (N : Nat) : Summ := summOf [.d tBook true, .d tWant true] false [.d (.bool) false] [.bool] (F.f_23 N)
theorem con_f_23 (N : Nat) : Contract Tryz.prog 105 (sm_f_23 N) := con_of (N := N) tabOK mixed (callOK_list (l := phiL_f_23 N) (allc rfl (con_f_2i N) (allc rfl (con_f_2z N) trivial))) (inl0_ok _) ok_f_23 (by decide) fun b w => run_f_23 N b w
def an_f_2y : Nat → Option Ann
  | 0 => some ⟨{ fr := [(0, Dir.keep), (1, Dir.keep), (5, Dir.keep)], bx := [], os := [] }, [(0, { fr := [], bx := [], os := [] })], { fr := [(4, Dir.keep)], bx := [], os := [] }⟩
  | _ => none
noncomputable def fi_f_2y : FI := ⟨Tryz.f163.results.toList, bodyOf Tryz.f163.body, Tryz.f163.ntmps, an_f_2y⟩
theorem ok_f_2y : FnOK Tryz.prog 163 fi_f_2y := ⟨⟨Tryz.f163, Tryz.func163, by kernel_rfl, rfl, rfl, by kernel_rfl⟩, by kernel_rfl⟩
def phiL_f_2y (N : Nat) : List (Nat × Summ) := [(102, sm_f_2z N)]
def sg_f_2y : Summ := sigOf [.d tTxts false, .d tTxts false] false [.d (.bool) false]
def S_f_2y_0 (a : List Txt) (b : List Txt) (i5 : Int) : St := ⟨[(0, .w (.one (.v tTxts a))), (1, .w (.one (.v tTxts b))), (5, .w (.one (.v tInt i5)))], []⟩
noncomputable def E_f_2y (N : Nat) : Env := envOf (tabOf tabL) (tabS (phiL_f_2y N)) inl0 N fi_f_2y []
noncomputable def K_f_2y := (kFun (tabOf tabL) fi_f_2y.res (kT (ofDs [.bool]) sg_f_2y []))
noncomputable def its_f_2y_0 (N : Nat) (n : Nat) : St → Option Bool := fun S' => iter [] (annAt fi_f_2y 0) (code (E_f_2y N) (lpIn fi_f_2y.body 0 0) 0) n S' (contOf (E_f_2y N) fi_f_2y.body 0 0 K_f_2y)
noncomputable def it_f_2y_0 (N : Nat) (a : List Txt) (b : List Txt) (n : Nat) : Int → Option Bool := fun i5 => its_f_2y_0 N n (S_f_2y_0 a b i5)
theorem fe_f_2y_0 (N : Nat) : it_f_2y_0 N = f_2y_0 N := funext fun a => funext fun b => funext (lp_all (by kernel_rfl) fun n => by
    show _ = f_2y_0r N a b (it_f_2y_0 N a b n)
    kernel_rfl)
theorem run_f_2y (N : Nat) (a : List (List UInt8)) (b : List (List UInt8)) : runST (ofDs [.bool]) (tabOf tabL) (tabS (phiL_f_2y N)) inl0 N fi_f_2y sg_f_2y [⟨tTxts, a⟩, ⟨tTxts, b⟩] = F.f_2y N a b := by
    show _ = F.f_2yb N (F.f_2y_0 N) a b
    rw [← fe_f_2y_0 N]
    kernel_rfl
def sm_f_2y (N : Nat) : Summ := summOf [.d tTxts false, .d tTxts false] false [.d (.bool) false] [.bool] (F.f_2y N)
theorem con_f_2y (N : Nat) : Contract Tryz.prog 163 (sm_f_2y N) := con_of (N := N) tabOK mixed (callOK_list (l := phiL_f_2y N) (allc rfl (con_f_2z N) trivial)) (inl0_ok _) ok_f_2y (by decide) fun a b => run_f_2y N a b
def an_f_24 : Nat → Option Ann := fun _ => none
noncomputable def fi_f_24 : FI := ⟨Tryz.f181.results.toList, bodyOf Tryz.f181.body, Tryz.f181.ntmps, an_f_24⟩
theorem ok_f_24 : FnOK Tryz.prog 181 fi_f_24 := ⟨⟨Tryz.f181, Tryz.func181, by kernel_rfl, rfl, rfl, by kernel_rfl⟩, by kernel_rfl⟩
def phiL_f_24 (N : Nat) : List (Nat × Summ) := [(163, sm_f_2y N)]
def sg_f_24 : Summ := sigOf [.d tSpot true, .d tWant true, .d tUse true] false [.d (.bool) false]
theorem run_f_24 (N : Nat) (s : (List UInt8) × ((Int) × ((Int) × ((Int) × (List Txt))))) (w : (Int) × ((Int) × ((List Txt) × ((List ((List UInt8) × ((Int) × (Int)))) × ((List Txt) × (List Txt)))))) (u : (List UInt8) × ((Int) × (Int))) : runST (ofDs [.bool]) (tabOf tabL) (tabS (phiL_f_24 N)) inl0 N fi_f_24 sg_f_24 [⟨tSpot, s⟩, ⟨tWant, w⟩, ⟨tUse, u⟩] = F.f_24 N s w u := by kernel_rfl
def sm_f_24 (N : Nat) : Summ := summOf [.d tSpot true, .d tWant true, .d tUse true] false [.d (.bool) false] [.bool] (F.f_24 N)
theorem con_f_24 (N : Nat) : Contract Tryz.prog 181 (sm_f_24 N) := con_of (N := N) tabOK mixed (callOK_list (l := phiL_f_24 N) (allc rfl (con_f_2y N) trivial)) (inl0_ok _) ok_f_24 (by decide) fun s w u => run_f_24 N s w u
def an_f_1t : Nat → Option Ann
  | 0 => some ⟨{ fr := [(2, Dir.keep), (3, Dir.keep), (5, Dir.keep)], bx := [(2, [Dir.keep, Dir.keep, Dir.keep, Dir.keep, Dir.keep]), (3, [Dir.keep, Dir.keep, Dir.keep, Dir.keep, Dir.keep, Dir.keep, Dir.keep])], os := [] }, [(0, { fr := [], bx := [], os := [] })], { fr := [(4, Dir.keep)], bx := [], os := [] }⟩
  | _ => none
noncomputable def fi_f_1t : FI := ⟨Tryz.f174.results.toList, bodyOf Tryz.f174.body, Tryz.f174.ntmps, an_f_1t⟩
theorem ok_f_1t : FnOK Tryz.prog 174 fi_f_1t := ⟨⟨Tryz.f174, Tryz.func174, by kernel_rfl, rfl, rfl, by kernel_rfl⟩, by kernel_rfl⟩
def phiL_f_1t (N : Nat) : List (Nat × Summ) := [(47, sm_f_11 N), (105, sm_f_23 N), (62, sm_f_2i N), (181, sm_f_24 N)]
def sg_f_1t : Summ := sigOf [.d tBook true, .d tPart true] false [.d (.bool) false]
def S_f_1t_0 (b : Book) (p : Part) (i5 : Int) : St := { fr := [(2, AV.w (V1.one (C.pb 2 0))), (3, AV.w (V1.one (C.pb 3 0))), (5, .w (.one (.v tInt i5)))], H := [(2, Ob.box [C.v tFoe.slice b.1, C.v tSpot.slice b.2.1, C.v tTxts b.2.2.1, C.v tPart.slice b.2.2.2.1, C.v tInt b.2.2.2.2]), (3, Ob.box [C.v tInt p.1.1, C.v tInt p.1.2.1, C.v tTxts p.1.2.2.1, C.v tUse.slice p.1.2.2.2.1, C.v tTxts p.1.2.2.2.2.1, C.v tTxts p.1.2.2.2.2.2, C.v Ty.bool p.2])] }
noncomputable def E_f_1t (N : Nat) : Env := envOf (tabOf tabL) (tabS (phiL_f_1t N)) inl0 N fi_f_1t []
noncomputable def K_f_1t := (kFun (tabOf tabL) fi_f_1t.res (kT (ofDs [.bool]) sg_f_1t []))
noncomputable def its_f_1t_0 (N : Nat) (n : Nat) : St → Option Bool := fun S' => iter [] (annAt fi_f_1t 0) (code (E_f_1t N) (lpIn fi_f_1t.body 0 0) 0) n S' (contOf (E_f_1t N) fi_f_1t.body 0 0 K_f_1t)
noncomputable def it_f_1t_0 (N : Nat) (b : Book) (p : Part) (n : Nat) : Int → Option Bool := fun i5 => its_f_1t_0 N n (S_f_1t_0 b p i5)
theorem fe_f_1t_0 (N : Nat) : it_f_1t_0 N = f_1t_0 N := funext fun b => funext fun p => funext (lp_all (by kernel_rfl) fun n => by
    show _ = f_1t_0r N b p (it_f_1t_0 N b p n)
    kernel_rfl)
theorem run_f_1t (N : Nat) (b : (List ((List UInt8) × (List UInt8))) × ((List ((List UInt8) × ((Int) × ((Int) × ((Int) × (List Txt)))))) × ((List Txt) × ((List (((Int) × ((Int) × ((List Txt) × ((List ((List UInt8) × ((Int) × (Int)))) × ((List Txt) × (List Txt)))))) × (Bool))) × (Int))))) (p : ((Int) × ((Int) × ((List Txt) × ((List ((List UInt8) × ((Int) × (Int)))) × ((List Txt) × (List Txt)))))) × (Bool)) : runST (ofDs [.bool]) (tabOf tabL) (tabS (phiL_f_1t N)) inl0 N fi_f_1t sg_f_1t [⟨tBook, b⟩, ⟨tPart, p⟩] = F.f_1t N b p := by
    show _ = F.f_1tb N (F.f_1t_0 N) b p
    rw [← fe_f_1t_0 N]
    kernel_rfl
def sm_f_1t (N : Nat) : Summ := summOf [.d tBook true, .d tPart true] false [.d (.bool) false] [.bool] (F.f_1t N)
theorem con_f_1t (N : Nat) : Contract Tryz.prog 174 (sm_f_1t N) := con_of (N := N) tabOK mixed (callOK_list (l := phiL_f_1t N) (allc rfl (con_f_11 N) (allc rfl (con_f_23 N) (allc rfl (con_f_2i N) (allc rfl (con_f_24 N) trivial))))) (inl0_ok _) ok_f_1t (by decide) fun b p => run_f_1t N b p
def an_f_2j : Nat → Option Ann
  | 0 => some ⟨{ fr := [(1, Dir.keep), (3, Dir.own 700003 9 Ty.str), (4, Dir.keep)], bx := [(1, [Dir.keep, Dir.keep, Dir.keep, Dir.keep, Dir.keep, Dir.keep])], os := [] }, [(0, { fr := [(3, Dir.own 700003 9 Ty.str)], bx := [], os := [] })], ⟨[], [], []⟩⟩
  | _ => none
noncomputable def fi_f_2j : FI := ⟨Tryz.f108.results.toList, bodyOf Tryz.f108.body, Tryz.f108.ntmps, an_f_2j⟩
theorem ok_f_2j : FnOK Tryz.prog 108 fi_f_2j := ⟨⟨Tryz.f108, Tryz.func108, by kernel_rfl, rfl, rfl, by kernel_rfl⟩, by kernel_rfl⟩
def phiL_f_2j (N : Nat) : List (Nat × Summ) := []
def sg_f_2j : Summ := sigOf [.d tWant true] false [.own tTxts false [(9, none)]]
def S_f_2j_0 (w : Want) (i4 : Int) (out3a : List Txt) : St := { fr := [(1, AV.w (V1.one (C.pb 1 0))), (3, AV.w (V1.one (C.arr 700003))), (4, .w (.one (.v tInt i4)))], H := [(1, Ob.box [C.v tInt w.1, C.v tInt w.2.1, C.v tTxts w.2.2.1, C.v tUse.slice w.2.2.2.1, C.v tTxts w.2.2.2.2.1, C.v tTxts w.2.2.2.2.2]), (700003, Ob.arr 9 Ty.str out3a)] }
noncomputable def E_f_2j (N : Nat) : Env := envOf (tabOf tabL) (tabS (phiL_f_2j N)) inl0 N fi_f_2j []
noncomputable def K_f_2j := (kFun (tabOf tabL) fi_f_2j.res (kT (ofDs [tTxts]) sg_f_2j []))
noncomputable def its_f_2j_0 (N : Nat) (n : Nat) : St → Option (List Txt) := fun S' => iter [] (annAt fi_f_2j 0) (code (E_f_2j N) (lpIn fi_f_2j.body 0 0) 0) n S' (contOf (E_f_2j N) fi_f_2j.body 0 0 K_f_2j)
noncomputable def it_f_2j_0 (N : Nat) (w : Want) (n : Nat) : Int → (List Txt) → Option (List Txt) := fun i4 out3a => its_f_2j_0 N n (S_f_2j_0 w i4 out3a)
theorem fe_f_2j_0 (N : Nat) : it_f_2j_0 N = f_2j_0 N := funext fun w => funext (lp_all (by kernel_rfl) fun n => by
    show _ = f_2j_0r N w (it_f_2j_0 N w n)
    kernel_rfl)
theorem run_f_2j (N : Nat) (w : (Int) × ((Int) × ((List Txt) × ((List ((List UInt8) × ((Int) × (Int)))) × ((List Txt) × (List Txt)))))) : runST (ofDs [tTxts]) (tabOf tabL) (tabS (phiL_f_2j N)) inl0 N fi_f_2j sg_f_2j [⟨tWant, w⟩] = F.f_2j N w := by
    show _ = F.f_2jb N (F.f_2j_0 N) w
    rw [← fe_f_2j_0 N]
    kernel_rfl
def sm_f_2j (N : Nat) : Summ := summOf [.d tWant true] false [.own tTxts false [(9, none)]] [tTxts] (F.f_2j N)
theorem con_f_2j (N : Nat) : Contract Tryz.prog 108 (sm_f_2j N) := con_of (N := N) tabOK mixed (callOK_list (l := phiL_f_2j N) trivial) (inl0_ok _) ok_f_2j (by decide) fun w => run_f_2j N w
def an_f_1i : Nat → Option Ann := fun _ => none
noncomputable def fi_f_1i : FI := ⟨Tryz.f109.results.toList, bodyOf Tryz.f109.body, Tryz.f109.ntmps, an_f_1i⟩
theorem ok_f_1i : FnOK Tryz.prog 109 fi_f_1i := ⟨⟨Tryz.f109, Tryz.func109, by kernel_rfl, rfl, rfl, by kernel_rfl⟩, by kernel_rfl⟩
def phiL_f_1i (N : Nat) : List (Nat × Summ) := [(107, sm_f_21 N)]
def sg_f_1i : Summ := sigOf [.d tWant true, .d tWant true] false [.d (.bool) false]
theorem run_f_1i (N : Nat) (a : (Int) × ((Int) × ((List Txt) × ((List ((List UInt8) × ((Int) × (Int)))) × ((List Txt) × (List Txt)))))) (b : (Int) × ((Int) × ((List Txt) × ((List ((List UInt8) × ((Int) × (Int)))) × ((List Txt) × (List Txt)))))) : runST (ofDs [.bool]) (tabOf tabL) (tabS (phiL_f_1i N)) inl0 N fi_f_1i sg_f_1i [⟨tWant, a⟩, ⟨tWant, b⟩] = F.f_1i N a b := by kernel_rfl
def sm_f_1i (N : Nat) : Summ := summOf [.d tWant true, .d tWant true] false [.d (.bool) false] [.bool] (F.f_1i N)
theorem con_f_1i (N : Nat) : Contract Tryz.prog 109 (sm_f_1i N) := con_of (N := N) tabOK mixed (callOK_list (l := phiL_f_1i N) (allc rfl (con_f_21 N) trivial)) (inl0_ok _) ok_f_1i (by decide) fun a b => run_f_1i N a b
def an_f_1j : Nat → Option Ann
  | 0 => some ⟨{ fr := [(1, Dir.keep), (3, Dir.keep)], bx := [(1, [Dir.keep, Dir.keep, Dir.keep, Dir.keep, Dir.keep])], os := [] }, [(0, { fr := [], bx := [], os := [] })], { fr := [(2, Dir.keep)], bx := [], os := [] }⟩
  | 2 => some ⟨{ fr := [(1, Dir.keep), (3, Dir.keep), (4, Dir.keep), (5, Dir.keep)], bx := [(1, [Dir.keep, Dir.keep, Dir.keep, Dir.keep, Dir.keep]), (4, [Dir.keep, Dir.keep, Dir.keep, Dir.keep, Dir.keep, Dir.keep])], os := [] }, [(2, { fr := [(1, Dir.keep), (3, Dir.keep)], bx := [(1, [Dir.keep, Dir.keep, Dir.keep, Dir.keep, Dir.keep])], os := [] })], { fr := [(2, Dir.keep)], bx := [], os := [] }⟩
  | _ => none
noncomputable def fi_f_1j : FI := ⟨Tryz.f124.results.toList, bodyOf Tryz.f124.body, Tryz.f124.ntmps, an_f_1j⟩
theorem ok_f_1j : FnOK Tryz.prog 124 fi_f_1j := ⟨⟨Tryz.f124, Tryz.func124, by kernel_rfl, rfl, rfl, by kernel_rfl⟩, by kernel_rfl⟩
def phiL_f_1j (N : Nat) : List (Nat × Summ) := [(174, sm_f_1t N), (108, sm_f_2j N), (107, sm_f_21 N), (109, sm_f_1i N)]
def sg_f_1j : Summ := sigOf [.d tBook true] false [.d (.bool) false]
def S_f_1j_2 (b : Book) (i3 : Int) (w4c0 : Int) (w4c1 : Int) (w4c2 : List Txt) (w4c3 : List Use) (w4c4 : List Txt) (w4c5 : List Txt) (k5 : Int) : St := { fr := [(1, AV.w (V1.one (C.pb 1 0))), (3, .w (.one (.v tInt i3))), (4, AV.w (V1.one (C.pb 4 0))), (5, .w (.one (.v tInt k5)))], H := [(1, Ob.box [C.v tFoe.slice b.1, C.v tSpot.slice b.2.1, C.v tTxts b.2.2.1, C.v tPart.slice b.2.2.2.1, C.v tInt b.2.2.2.2]), (4, Ob.box [C.v tInt w4c0, C.v tInt w4c1, C.v tTxts w4c2, C.v tUse.slice w4c3, C.v tTxts w4c4, C.v tTxts w4c5])] }
def S_f_1j_0 (b : Book) (i3 : Int) : St := { fr := [(1, AV.w (V1.one (C.pb 1 0))), (3, .w (.one (.v tInt i3)))], H := [(1, Ob.box [C.v tFoe.slice b.1, C.v tSpot.slice b.2.1, C.v tTxts b.2.2.1, C.v tPart.slice b.2.2.2.1, C.v tInt b.2.2.2.2])] }
noncomputable def E_f_1j (N : Nat) : Env := envOf (tabOf tabL) (tabS (phiL_f_1j N)) inl0 N fi_f_1j []
noncomputable def K_f_1j := (kFun (tabOf tabL) fi_f_1j.res (kT (ofDs [.bool]) sg_f_1j []))
noncomputable def its_f_1j_2 (N : Nat) (nxS0 : St → Option Bool) (n : Nat) : St → Option Bool := fun S' => iter [] (annAt fi_f_1j 2) (code (E_f_1j N) (lpIn (lpIn fi_f_1j.body 0 0) 0 2) 2) n S' (contOf (E_f_1j N) (lpIn fi_f_1j.body 0 0) 0 2 (kLoop [] (annAt fi_f_1j 0) nxS0 (contOf (E_f_1j N) fi_f_1j.body 0 0 K_f_1j)))
noncomputable def it_f_1j_2 (N : Nat) (nxS0 : St → Option Bool) (b : Book) (i3 : Int) (w4c0 : Int) (w4c1 : Int) (w4c2 : List Txt) (w4c3 : List Use) (w4c4 : List Txt) (w4c5 : List Txt) (n : Nat) : Int → Option Bool := fun k5 => its_f_1j_2 N nxS0 n (S_f_1j_2 b i3 w4c0 w4c1 w4c2 w4c3 w4c4 w4c5 k5)
theorem fe_f_1j_2 (N : Nat) (nxS0 : St → Option Bool) (b : Book) : it_f_1j_2 N nxS0 b = f_1j_2 N (fun i3 => nxS0 (S_f_1j_0 b i3)) b := funext fun i3 => funext fun w4c0 => funext fun w4c1 => funext fun w4c2 => funext fun w4c3 => funext fun w4c4 => funext fun w4c5 => funext (lp_all (by kernel_rfl) fun n => by
    show _ = f_1j_2r N (fun i3 => nxS0 (S_f_1j_0 b i3)) b i3 w4c0 w4c1 w4c2 w4c3 w4c4 w4c5 (it_f_1j_2 N nxS0 b i3 w4c0 w4c1 w4c2 w4c3 w4c4 w4c5 n)
    kernel_rfl)
noncomputable def its_f_1j_0 (N : Nat) (n : Nat) : St → Option Bool := fun S' => iter [] (annAt fi_f_1j 0) (code (E_f_1j N) (lpIn fi_f_1j.body 0 0) 0) n S' (contOf (E_f_1j N) fi_f_1j.body 0 0 K_f_1j)
noncomputable def it_f_1j_0 (N : Nat) (b : Book) (n : Nat) : Int → Option Bool := fun i3 => its_f_1j_0 N n (S_f_1j_0 b i3)
theorem fe_f_1j_0 (N : Nat) : it_f_1j_0 N = f_1j_0 N := funext fun b => funext (lp_all (by kernel_rfl) fun n => by
    show _ = f_1j_0r N (f_1j_2 N (it_f_1j_0 N b n) b) b (it_f_1j_0 N b n)
    rw [show f_1j_2 N (it_f_1j_0 N b n) b = it_f_1j_2 N (its_f_1j_0 N n) b from (fe_f_1j_2 N (its_f_1j_0 N n) b).symm]
    kernel_rfl)
theorem run_f_1j (N : Nat) (b : (List ((List UInt8) × (List UInt8))) × ((List ((List UInt8) × ((Int) × ((Int) × ((Int) × (List Txt)))))) × ((List Txt) × ((List (((Int) × ((Int) × ((List Txt) × ((List ((List UInt8) × ((Int) × (Int)))) × ((List Txt) × (List Txt)))))) × (Bool))) × (Int))))) : runST (ofDs [.bool]) (tabOf tabL) (tabS (phiL_f_1j N)) inl0 N fi_f_1j sg_f_1j [⟨tBook, b⟩] = F.f_1j N b := by
    show _ = F.f_1jb N (F.f_1j_0 N) b
    rw [← fe_f_1j_0 N]
    kernel_rfl
def sm_f_1j (N : Nat) : Summ := summOf [.d tBook true] false [.d (.bool) false] [.bool] (F.f_1j N)
theorem con_f_1j (N : Nat) : Contract Tryz.prog 124 (sm_f_1j N) := con_of (N := N) tabOK mixed (callOK_list (l := phiL_f_1j N) (allc rfl (con_f_1t N) (allc rfl (con_f_2j N) (allc rfl (con_f_21 N) (allc rfl (con_f_1i N) trivial))))) (inl0_ok _) ok_f_1j (by decide) fun b => run_f_1j N b
def an_f_10 : Nat → Option Ann
  | 0 => some ⟨{ fr := [(1, Dir.keep), (3, Dir.keep)], bx := [(1, [Dir.keep, Dir.keep, Dir.keep, Dir.keep, Dir.keep])], os := [] }, [(0, { fr := [(1, Dir.keep)], bx := [(1, [Dir.keep, Dir.keep, Dir.keep, Dir.keep, Dir.keep])], os := [] })], { fr := [(2, Dir.keep)], bx := [], os := [] }⟩
  | _ => none
noncomputable def fi_f_10 : FI := ⟨Tryz.f45.results.toList, bodyOf Tryz.f45.body, Tryz.f45.ntmps, an_f_10⟩
theorem ok_f_10 : FnOK Tryz.prog 45 fi_f_10 := ⟨⟨Tryz.f45, Tryz.func45, by kernel_rfl, rfl, rfl, by kernel_rfl⟩, by kernel_rfl⟩
def phiL_f_10 (N : Nat) : List (Nat × Summ) := [(121, sm_f_1s N), (122, sm_f_1f N), (67, sm_f_37 N), (123, sm_f_1u N), (124, sm_f_1j N)]
def sg_f_10 : Summ := sigOf [.d tBook true] false [.d (.bool) false]
def S_f_10_0 (b : Book) (i3 : Int) : St := { fr := [(1, AV.w (V1.one (C.pb 1 0))), (3, .w (.one (.v tInt i3)))], H := [(1, Ob.box [C.v tFoe.slice b.1, C.v tSpot.slice b.2.1, C.v tTxts b.2.2.1, C.v tPart.slice b.2.2.2.1, C.v tInt b.2.2.2.2])] }
noncomputable def E_f_10 (N : Nat) : Env := envOf (tabOf tabL) (tabS (phiL_f_10 N)) inl0 N fi_f_10 []
noncomputable def K_f_10 := (kFun (tabOf tabL) fi_f_10.res (kT (ofDs [.bool]) sg_f_10 []))
noncomputable def its_f_10_0 (N : Nat) (n : Nat) : St → Option Bool := fun S' => iter [] (annAt fi_f_10 0) (code (E_f_10 N) (lpIn fi_f_10.body 0 0) 0) n S' (contOf (E_f_10 N) fi_f_10.body 0 0 K_f_10)
noncomputable def it_f_10_0 (N : Nat) (b : Book) (n : Nat) : Int → Option Bool := fun i3 => its_f_10_0 N n (S_f_10_0 b i3)
theorem fe_f_10_0 (N : Nat) : it_f_10_0 N = f_10_0 N := funext fun b => funext (lp_all (by kernel_rfl) fun n => by
    show _ = f_10_0r N b (it_f_10_0 N b n)
    kernel_rfl)
theorem run_f_10 (N : Nat) (b : (List ((List UInt8) × (List UInt8))) × ((List ((List UInt8) × ((Int) × ((Int) × ((Int) × (List Txt)))))) × ((List Txt) × ((List (((Int) × ((Int) × ((List Txt) × ((List ((List UInt8) × ((Int) × (Int)))) × ((List Txt) × (List Txt)))))) × (Bool))) × (Int))))) : runST (ofDs [.bool]) (tabOf tabL) (tabS (phiL_f_10 N)) inl0 N fi_f_10 sg_f_10 [⟨tBook, b⟩] = F.f_10 N b := by
    show _ = F.f_10b N (F.f_10_0 N) b
    rw [← fe_f_10_0 N]
    kernel_rfl
def sm_f_10 (N : Nat) : Summ := summOf [.d tBook true] false [.d (.bool) false] [.bool] (F.f_10 N)
theorem con_f_10 (N : Nat) : Contract Tryz.prog 45 (sm_f_10 N) := con_of (N := N) tabOK mixed (callOK_list (l := phiL_f_10 N) (allc rfl (con_f_1s N) (allc rfl (con_f_1f N) (allc rfl (con_f_37 N) (allc rfl (con_f_1u N) (allc rfl (con_f_1j N) trivial)))))) (inl0_ok _) ok_f_10 (by decide) fun b => run_f_10 N b
def an_f_2f : Nat → Option Ann
  | 0 => some ⟨{ fr := [(1, Dir.keep), (2, Dir.keep), (3, Dir.keep), (4, Dir.keep)], bx := [(1, [Dir.keep, Dir.keep, Dir.keep, Dir.keep, Dir.keep]), (2, [Dir.keep, Dir.keep, Dir.keep, Dir.keep, Dir.keep]), (3, [Dir.own 1000300 106 tFoe, Dir.dow 1000301 34 [9] tSpot, Dir.own 1000302 9 Ty.str, Dir.keep, Dir.keep])], os := [] }, [(0, { fr := [(1, Dir.keep), (2, Dir.keep), (3, Dir.keep)], bx := [(1, [Dir.keep, Dir.keep, Dir.keep, Dir.keep, Dir.keep]), (2, [Dir.keep, Dir.keep, Dir.keep, Dir.keep, Dir.keep]), (3, [Dir.own 1000300 106 tFoe, Dir.dow 1000301 34 [9] tSpot, Dir.own 1000302 9 Ty.str, Dir.keep, Dir.keep])], os := [] })], ⟨[], [], []⟩⟩
  | 2 => some ⟨{ fr := [(1, Dir.keep), (2, Dir.keep), (3, Dir.keep), (6, Dir.keep)], bx := [(1, [Dir.keep, Dir.keep, Dir.keep, Dir.keep, Dir.keep]), (2, [Dir.keep, Dir.keep, Dir.keep, Dir.keep, Dir.keep]), (3, [Dir.own 1000300 106 tFoe, Dir.dow 1000301 34 [9] tSpot, Dir.own 1000302 9 Ty.str, Dir.dow 1000303 94 [9, 82, 9, 9] tPart, Dir.keep])], os := [] }, [(2, { fr := [(2, Dir.keep), (3, Dir.keep)], bx := [(2, [Dir.keep, Dir.keep, Dir.keep, Dir.keep, Dir.keep]), (3, [Dir.own 1000300 106 tFoe, Dir.dow 1000301 34 [9] tSpot, Dir.own 1000302 9 Ty.str, Dir.dow 1000303 94 [9, 82, 9, 9] tPart, Dir.keep])], os := [] })], ⟨[], [], []⟩⟩
  | _ => none
noncomputable def fi_f_2f : FI := ⟨Tryz.f52.results.toList, bodyOf Tryz.f52.body, Tryz.f52.ntmps, an_f_2f⟩
theorem ok_f_2f : FnOK Tryz.prog 52 fi_f_2f := ⟨⟨Tryz.f52, Tryz.func52, by kernel_rfl, rfl, rfl, by kernel_rfl⟩, by kernel_rfl⟩
def phiL_f_2f (N : Nat) : List (Nat × Summ) := [(129, sm_f_1z N), (130, sm_f_2e N)]
def sg_f_2f : Summ := sigOf [.d tBook true] false [.own tBook true [(106, none), (34, (some [9])), (9, none), (94, (some [9, 82, 9, 9]))]]
def S_f_2f_2 (b : Book) (r : List Txt) (t2c4 : Int) (x3c0a : List Foe) (x3c1a : List Spot) (i6 : Int) (x3c3a : List Part) : St := { fr := [(1, AV.w (V1.one (C.pb 1 0))), (2, AV.w (V1.one (C.pb 2 0))), (3, AV.w (V1.one (C.pb 3 0))), (6, .w (.one (.v tInt i6)))], H := [(1, Ob.box [C.v tFoe.slice b.1, C.v tSpot.slice b.2.1, C.v tTxts b.2.2.1, C.v tPart.slice b.2.2.2.1, C.v tInt b.2.2.2.2]), (2, Ob.box [C.emp, C.emp, C.emp, C.emp, C.v tInt t2c4]), (3, Ob.box [C.arr 1000300, C.arr 1000301, C.arr 1000302, C.arr 1000303, C.v tInt b.2.2.2.2]), (1000300, Ob.arr 106 tFoe x3c0a), (1000301, Ob.arr 34 tSpot x3c1a (Dp.yes [9])), (1000302, Ob.arr 9 Ty.str r), (1000303, Ob.arr 94 tPart x3c3a (Dp.yes [9, 82, 9, 9]))] }
def S_f_2f_0 (b : Book) (r : List Txt) (t2c4 : Int) (x3c0a : List Foe) (i4 : Int) (x3c1a : List Spot) : St := { fr := [(1, AV.w (V1.one (C.pb 1 0))), (2, AV.w (V1.one (C.pb 2 0))), (3, AV.w (V1.one (C.pb 3 0))), (4, .w (.one (.v tInt i4)))], H := [(1, Ob.box [C.v tFoe.slice b.1, C.v tSpot.slice b.2.1, C.v tTxts b.2.2.1, C.v tPart.slice b.2.2.2.1, C.v tInt b.2.2.2.2]), (2, Ob.box [C.emp, C.emp, C.emp, C.emp, C.v tInt t2c4]), (3, Ob.box [C.arr 1000300, C.arr 1000301, C.arr 1000302, C.emp, C.v tInt b.2.2.2.2]), (1000300, Ob.arr 106 tFoe x3c0a), (1000301, Ob.arr 34 tSpot x3c1a (Dp.yes [9])), (1000302, Ob.arr 9 Ty.str r)] }
noncomputable def E_f_2f (N : Nat) : Env := envOf (tabOf tabL) (tabS (phiL_f_2f N)) inl0 N fi_f_2f []
noncomputable def K_f_2f := (kFun (tabOf tabL) fi_f_2f.res (kT (ofDs [tBook]) sg_f_2f []))
noncomputable def its_f_2f_2 (N : Nat) (n : Nat) : St → Option Book := fun S' => iter [] (annAt fi_f_2f 2) (code (E_f_2f N) (lpIn fi_f_2f.body 0 2) 2) n S' (contOf (E_f_2f N) fi_f_2f.body 0 2 K_f_2f)
noncomputable def it_f_2f_2 (N : Nat) (b : Book) (r : List Txt) (t2c4 : Int) (x3c0a : List Foe) (x3c1a : List Spot) (n : Nat) : Int → (List Part) → Option Book := fun i6 x3c3a => its_f_2f_2 N n (S_f_2f_2 b r t2c4 x3c0a x3c1a i6 x3c3a)
theorem fe_f_2f_2 (N : Nat) : it_f_2f_2 N = f_2f_2 N := funext fun b => funext fun r => funext fun t2c4 => funext fun x3c0a => funext fun x3c1a => funext (lp_all (by kernel_rfl) fun n => by
    show _ = f_2f_2r N b r t2c4 x3c0a x3c1a (it_f_2f_2 N b r t2c4 x3c0a x3c1a n)
    kernel_rfl)
noncomputable def its_f_2f_0 (N : Nat) (n : Nat) : St → Option Book := fun S' => iter [] (annAt fi_f_2f 0) (code (E_f_2f N) (lpIn fi_f_2f.body 0 0) 0) n S' (contOf (E_f_2f N) fi_f_2f.body 0 0 K_f_2f)
noncomputable def it_f_2f_0 (N : Nat) (b : Book) (r : List Txt) (t2c4 : Int) (x3c0a : List Foe) (n : Nat) : Int → (List Spot) → Option Book := fun i4 x3c1a => its_f_2f_0 N n (S_f_2f_0 b r t2c4 x3c0a i4 x3c1a)
theorem fe_f_2f_0 (N : Nat) : it_f_2f_0 N = f_2f_0 N := funext fun b => funext fun r => funext fun t2c4 => funext fun x3c0a => funext (lp_all (by kernel_rfl) fun n => by
    show _ = f_2f_0r N (f_2f_2 N) b r t2c4 x3c0a (it_f_2f_0 N b r t2c4 x3c0a n)
    rw [show f_2f_2 N = it_f_2f_2 N from (fe_f_2f_2 N).symm]
    kernel_rfl)
theorem run_f_2f (N : Nat) (b : (List ((List UInt8) × (List UInt8))) × ((List ((List UInt8) × ((Int) × ((Int) × ((Int) × (List Txt)))))) × ((List Txt) × ((List (((Int) × ((Int) × ((List Txt) × ((List ((List UInt8) × ((Int) × (Int)))) × ((List Txt) × (List Txt)))))) × (Bool))) × (Int))))) : runST (ofDs [tBook]) (tabOf tabL) (tabS (phiL_f_2f N)) inl0 N fi_f_2f sg_f_2f [⟨tBook, b⟩] = F.f_2f N b := by
    show _ = F.f_2fb N (F.f_2f_0 N) b
    rw [← fe_f_2f_0 N]
    kernel_rfl
def sm_f_2f (N : Nat) : Summ := summOf [.d tBook true] false [.own tBook true [(106, none), (34, (some [9])), (9, none), (94, (some [9, 82, 9, 9]))]] [tBook] (F.f_2f N)
theorem con_f_2f (N : Nat) : Contract Tryz.prog 52 (sm_f_2f N) := con_of (N := N) tabOK mixed (callOK_list (l := phiL_f_2f N) (allc rfl (con_f_1z N) (allc rfl (con_f_2e N) trivial))) (inl0_ok _) ok_f_2f (by decide) fun b => run_f_2f N b
def an_f_1e : Nat → Option Ann := fun _ => none
noncomputable def fi_f_1e : FI := ⟨Tryz.f13.results.toList, bodyOf Tryz.f13.body, Tryz.f13.ntmps, an_f_1e⟩
theorem ok_f_1e : FnOK Tryz.prog 13 fi_f_1e := ⟨⟨Tryz.f13, Tryz.func13, by kernel_rfl, rfl, rfl, by kernel_rfl⟩, by kernel_rfl⟩
def phiL_f_1e (N : Nat) : List (Nat × Summ) := [(45, sm_f_10 N), (52, sm_f_2f N), (58, sm_f_2h N)]
def sg_f_1e : Summ := sigOf [.d tBook true, .d tInt false] false [.own tBook true [(106, none), (34, (some [9])), (9, none), (94, (some [9, 82, 9, 9]))], .d tInt false]
theorem run_f_1e (N : Nat) (b : (List ((List UInt8) × (List UInt8))) × ((List ((List UInt8) × ((Int) × ((Int) × ((Int) × (List Txt)))))) × ((List Txt) × ((List (((Int) × ((Int) × ((List Txt) × ((List ((List UInt8) × ((Int) × (Int)))) × ((List Txt) × (List Txt)))))) × (Bool))) × (Int))))) (number : Int) : runST (ofDs [tBook, tInt]) (tabOf tabL) (tabS (phiL_f_1e N)) inl0 N fi_f_1e sg_f_1e [⟨tBook, b⟩, ⟨tInt, number⟩] = F.f_1e N b number := by kernel_rfl
def sm_f_1e (N : Nat) : Summ := summOf [.d tBook true, .d tInt false] false [.own tBook true [(106, none), (34, (some [9])), (9, none), (94, (some [9, 82, 9, 9]))], .d tInt false] [tBook, tInt] (F.f_1e N)
theorem con_f_1e (N : Nat) : Contract Tryz.prog 13 (sm_f_1e N) := con_of (N := N) tabOK mixed (callOK_list (l := phiL_f_1e N) (allc rfl (con_f_10 N) (allc rfl (con_f_2f N) (allc rfl (con_f_2h N) trivial)))) (inl0_ok _) ok_f_1e (by decide) fun b number => run_f_1e N b number
def an_f_26 : Nat → Option Ann
  | 0 => some ⟨{ fr := [(1, Dir.keep), (2, Dir.keep), (5, Dir.keep)], bx := [(2, [Dir.keep, Dir.keep, Dir.keep, Dir.keep, Dir.keep, Dir.keep])], os := [] }, [(0, { fr := [], bx := [], os := [] })], { fr := [(4, Dir.keep)], bx := [], os := [] }⟩
  | _ => none
noncomputable def fi_f_26 : FI := ⟨Tryz.f61.results.toList, bodyOf Tryz.f61.body, Tryz.f61.ntmps, an_f_26⟩
theorem ok_f_26 : FnOK Tryz.prog 61 fi_f_26 := ⟨⟨Tryz.f61, Tryz.func61, by kernel_rfl, rfl, rfl, by kernel_rfl⟩, by kernel_rfl⟩
def phiL_f_26 (N : Nat) : List (Nat × Summ) := []
def sg_f_26 : Summ := sigOf [.d tWant true, .d tInt false] false [.d (.bool) false]
def S_f_26_0 (w : Want) (moved : Int) (i5 : Int) : St := { fr := [(1, .w (.one (.v tInt moved))), (2, AV.w (V1.one (C.pb 2 0))), (5, .w (.one (.v tInt i5)))], H := [(2, Ob.box [C.v tInt w.1, C.v tInt w.2.1, C.v tTxts w.2.2.1, C.v tUse.slice w.2.2.2.1, C.v tTxts w.2.2.2.2.1, C.v tTxts w.2.2.2.2.2])] }
noncomputable def E_f_26 (N : Nat) : Env := envOf (tabOf tabL) (tabS (phiL_f_26 N)) inl0 N fi_f_26 []
noncomputable def K_f_26 := (kFun (tabOf tabL) fi_f_26.res (kT (ofDs [.bool]) sg_f_26 []))
noncomputable def its_f_26_0 (N : Nat) (n : Nat) : St → Option Bool := fun S' => iter [] (annAt fi_f_26 0) (code (E_f_26 N) (lpIn fi_f_26.body 0 0) 0) n S' (contOf (E_f_26 N) fi_f_26.body 0 0 K_f_26)
noncomputable def it_f_26_0 (N : Nat) (w : Want) (moved : Int) (n : Nat) : Int → Option Bool := fun i5 => its_f_26_0 N n (S_f_26_0 w moved i5)
theorem fe_f_26_0 (N : Nat) : it_f_26_0 N = f_26_0 N := funext fun w => funext fun moved => funext (lp_all (by kernel_rfl) fun n => by
    show _ = f_26_0r N w moved (it_f_26_0 N w moved n)
    kernel_rfl)
theorem run_f_26 (N : Nat) (w : (Int) × ((Int) × ((List Txt) × ((List ((List UInt8) × ((Int) × (Int)))) × ((List Txt) × (List Txt)))))) (moved : Int) : runST (ofDs [.bool]) (tabOf tabL) (tabS (phiL_f_26 N)) inl0 N fi_f_26 sg_f_26 [⟨tWant, w⟩, ⟨tInt, moved⟩] = F.f_26 N w moved := by
    show _ = F.f_26b N (F.f_26_0 N) w moved
    rw [← fe_f_26_0 N]
    kernel_rfl
def sm_f_26 (N : Nat) : Summ := summOf [.d tWant true, .d tInt false] false [.d (.bool) false] [.bool] (F.f_26 N)
theorem con_f_26 (N : Nat) : Contract Tryz.prog 61 (sm_f_26 N) := con_of (N := N) tabOK mixed (callOK_list (l := phiL_f_26 N) trivial) (inl0_ok _) ok_f_26 (by decide) fun w moved => run_f_26 N w moved
def an_f_1x : Nat → Option Ann := fun _ => none
noncomputable def fi_f_1x : FI := ⟨Tryz.f63.results.toList, bodyOf Tryz.f63.body, Tryz.f63.ntmps, an_f_1x⟩
theorem ok_f_1x : FnOK Tryz.prog 63 fi_f_1x := ⟨⟨Tryz.f63, Tryz.func63, by kernel_rfl, rfl, rfl, by kernel_rfl⟩, by kernel_rfl⟩
def phiL_f_1x (N : Nat) : List (Nat × Summ) := []
def sg_f_1x : Summ := sigOf [.d tSpot true, .d tWant true, .d tUse true, .d tInt false, .d (.bool) false] true [.d tSpot true]
theorem run_f_1x (N : Nat) (s : (List UInt8) × ((Int) × ((Int) × ((Int) × (List Txt))))) (w : (Int) × ((Int) × ((List Txt) × ((List ((List UInt8) × ((Int) × (Int)))) × ((List Txt) × (List Txt)))))) (u : (List UInt8) × ((Int) × (Int))) (moved : Int) (done : Bool) : runST (ofDs [tSpot]) (tabOf tabL) (tabS (phiL_f_1x N)) inl0 N fi_f_1x sg_f_1x [⟨tSpot, s⟩, ⟨tWant, w⟩, ⟨tUse, u⟩, ⟨tInt, moved⟩, ⟨.bool, done⟩] = F.f_1x N s w u moved done := by kernel_rfl
def sm_f_1x (N : Nat) : Summ := summOf [.d tSpot true, .d tWant true, .d tUse true, .d tInt false, .d (.bool) false] true [.d tSpot true] [tSpot] (F.f_1x N)
theorem con_f_1x (N : Nat) : Contract Tryz.prog 63 (sm_f_1x N) := con_of (N := N) tabOK mixed (callOK_list (l := phiL_f_1x N) trivial) (inl0_ok _) ok_f_1x (by decide) fun s w u moved done => run_f_1x N s w u moved done
def an_f_1c : Nat → Option Ann
  | 0 => some ⟨{ fr := [(2, Dir.keep), (3, Dir.keep), (4, Dir.keep), (8, Dir.keep), (10, Dir.keep), (11, Dir.keep), (12, Dir.keep), (13, Dir.keep)], bx := [(4, [Dir.keep, Dir.keep, Dir.keep, Dir.keep, Dir.keep]), (8, [Dir.keep, Dir.keep, Dir.keep, Dir.keep, Dir.keep]), (10, [Dir.own 1001000 106 tFoe, Dir.own 1001001 34 tSpot, Dir.own 1001002 9 Ty.str, Dir.frz tPart, Dir.keep]), (12, [Dir.keep, Dir.keep, Dir.keep, Dir.keep, Dir.keep, Dir.keep])], os := [] }, [(0, { fr := [(8, Dir.keep), (10, Dir.keep), (11, Dir.keep)], bx := [(8, [Dir.keep, Dir.keep, Dir.keep, Dir.keep, Dir.keep]), (10, [Dir.own 1001000 106 tFoe, Dir.own 1001001 34 tSpot, Dir.own 1001002 9 Ty.str, Dir.frz tPart, Dir.keep])], os := [] })], ⟨[], [], []⟩⟩
  | _ => none
noncomputable def fi_f_1c : FI := ⟨Tryz.f15.results.toList, bodyOf Tryz.f15.body, Tryz.f15.ntmps, an_f_1c⟩
theorem ok_f_1c : FnOK Tryz.prog 15 fi_f_1c := ⟨⟨Tryz.f15, Tryz.func15, by kernel_rfl, rfl, rfl, by kernel_rfl⟩, by kernel_rfl⟩
def phiL_f_1c (N : Nat) : List (Nat × Summ) := [(45, sm_f_10 N), (52, sm_f_2f N), (58, sm_f_2h N), (61, sm_f_26 N), (62, sm_f_2i N), (63, sm_f_1x N)]
def sg_f_1c : Summ := sigOf [.d tBook true, .d tInt false, .d tInt false, .d (.bool) false] false [.own tBook true [(106, none), (34, (some [9])), (9, none), (94, (some [9, 82, 9, 9]))], .d tInt false]
def S_f_1c_0 (b : Book) (moved : Int) (done : Bool) (r_1 : Book) (r_2 : Int) (t8c4 : Int) (w12c0 : Int) (w12c1 : Int) (w12c2 : List Txt) (w12c3 : List Use) (w12c4 : List Txt) (w12c5 : List Txt) (i13 : Int) (x10c1a : List Spot) : St := { fr := [(2, .w (.one (.v tInt moved))), (3, .w (.one (.v Ty.bool done))), (4, AV.w (V1.one (C.pb 4 0))), (8, AV.w (V1.one (C.pb 8 0))), (10, AV.w (V1.one (C.pb 10 0))), (11, .w (.one (.v tInt r_2))), (12, AV.w (V1.one (C.pb 12 0))), (13, .w (.one (.v tInt i13)))], H := [(4, Ob.box [C.v tFoe.slice b.1, C.v tSpot.slice b.2.1, C.v tTxts b.2.2.1, C.v tPart.slice b.2.2.2.1, C.v tInt b.2.2.2.2]), (8, Ob.box [C.emp, C.emp, C.emp, C.emp, C.v tInt t8c4]), (10, Ob.box [C.arr 1001000, C.arr 1001001, C.arr 1001002, C.v tPart.slice r_1.2.2.2.1, C.v tInt r_1.2.2.2.2]), (12, Ob.box [C.v tInt w12c0, C.v tInt w12c1, C.v tTxts w12c2, C.v tUse.slice w12c3, C.v tTxts w12c4, C.v tTxts w12c5]), (1001000, Ob.arr 106 tFoe r_1.1), (1001001, Ob.arr 34 tSpot x10c1a), (1001002, Ob.arr 9 Ty.str r_1.2.2.1)] }
noncomputable def E_f_1c (N : Nat) : Env := envOf (tabOf tabL) (tabS (phiL_f_1c N)) inl0 N fi_f_1c []
noncomputable def K_f_1c := (kFun (tabOf tabL) fi_f_1c.res (kT (ofDs [tBook, tInt]) sg_f_1c []))
noncomputable def its_f_1c_0 (N : Nat) (n : Nat) : St → Option (Book × Int) := fun S' => iter [] (annAt fi_f_1c 0) (code (E_f_1c N) (lpIn fi_f_1c.body 0 0) 0) n S' (contOf (E_f_1c N) fi_f_1c.body 0 0 K_f_1c)
noncomputable def it_f_1c_0 (N : Nat) (b : Book) (moved : Int) (done : Bool) (r_1 : Book) (r_2 : Int) (t8c4 : Int) (w12c0 : Int) (w12c1 : Int) (w12c2 : List Txt) (w12c3 : List Use) (w12c4 : List Txt) (w12c5 : List Txt) (n : Nat) : Int → (List Spot) → Option (Book × Int) := fun i13 x10c1a => its_f_1c_0 N n (S_f_1c_0 b moved done r_1 r_2 t8c4 w12c0 w12c1 w12c2 w12c3 w12c4 w12c5 i13 x10c1a)
theorem fe_f_1c_0 (N : Nat) : it_f_1c_0 N = f_1c_0 N := funext fun b => funext fun moved => funext fun done => funext fun r_1 => funext fun r_2 => funext fun t8c4 => funext fun w12c0 => funext fun w12c1 => funext fun w12c2 => funext fun w12c3 => funext fun w12c4 => funext fun w12c5 => funext (lp_all (by kernel_rfl) fun n => by
    show _ = f_1c_0r N b moved done r_1 r_2 t8c4 w12c0 w12c1 w12c2 w12c3 w12c4 w12c5 (it_f_1c_0 N b moved done r_1 r_2 t8c4 w12c0 w12c1 w12c2 w12c3 w12c4 w12c5 n)
    kernel_rfl)
theorem run_f_1c (N : Nat) (b : (List ((List UInt8) × (List UInt8))) × ((List ((List UInt8) × ((Int) × ((Int) × ((Int) × (List Txt)))))) × ((List Txt) × ((List (((Int) × ((Int) × ((List Txt) × ((List ((List UInt8) × ((Int) × (Int)))) × ((List Txt) × (List Txt)))))) × (Bool))) × (Int))))) (number : Int) (moved : Int) (done : Bool) : runST (ofDs [tBook, tInt]) (tabOf tabL) (tabS (phiL_f_1c N)) inl0 N fi_f_1c sg_f_1c [⟨tBook, b⟩, ⟨tInt, number⟩, ⟨tInt, moved⟩, ⟨.bool, done⟩] = F.f_1c N b number moved done := by
    show _ = F.f_1cb N (F.f_1c_0 N) b number moved done
    rw [← fe_f_1c_0 N]
    kernel_rfl
def sm_f_1c (N : Nat) : Summ := summOf [.d tBook true, .d tInt false, .d tInt false, .d (.bool) false] false [.own tBook true [(106, none), (34, (some [9])), (9, none), (94, (some [9, 82, 9, 9]))], .d tInt false] [tBook, tInt] (F.f_1c N)
theorem con_f_1c (N : Nat) : Contract Tryz.prog 15 (sm_f_1c N) := con_of (N := N) tabOK mixed (callOK_list (l := phiL_f_1c N) (allc rfl (con_f_10 N) (allc rfl (con_f_2f N) (allc rfl (con_f_2h N) (allc rfl (con_f_26 N) (allc rfl (con_f_2i N) (allc rfl (con_f_1x N) trivial))))))) (inl0_ok _) ok_f_1c (by decide) fun b number moved done => run_f_1c N b number moved done
def an_f_1y : Nat → Option Ann
  | 0 => some ⟨{ fr := [(0, Dir.keep), (1, Dir.keep), (5, Dir.keep)], bx := [], os := [] }, [(0, { fr := [], bx := [], os := [] })], { fr := [(4, Dir.keep)], bx := [], os := [] }⟩
  | _ => none
noncomputable def fi_f_1y : FI := ⟨Tryz.f161.results.toList, bodyOf Tryz.f161.body, Tryz.f161.ntmps, an_f_1y⟩
theorem ok_f_1y : FnOK Tryz.prog 161 fi_f_1y := ⟨⟨Tryz.f161, Tryz.func161, by kernel_rfl, rfl, rfl, by kernel_rfl⟩, by kernel_rfl⟩
def phiL_f_1y (N : Nat) : List (Nat × Summ) := []
def sg_f_1y : Summ := sigOf [.d tTxts false, .d tTxts false] false [.d (.bool) false]
def S_f_1y_0 (a : List Txt) (b : List Txt) (i5 : Int) : St := ⟨[(0, .w (.one (.v tTxts a))), (1, .w (.one (.v tTxts b))), (5, .w (.one (.v tInt i5)))], []⟩
noncomputable def E_f_1y (N : Nat) : Env := envOf (tabOf tabL) (tabS (phiL_f_1y N)) inl0 N fi_f_1y []
noncomputable def K_f_1y := (kFun (tabOf tabL) fi_f_1y.res (kT (ofDs [.bool]) sg_f_1y []))
noncomputable def its_f_1y_0 (N : Nat) (n : Nat) : St → Option Bool := fun S' => iter [] (annAt fi_f_1y 0) (code (E_f_1y N) (lpIn fi_f_1y.body 0 0) 0) n S' (contOf (E_f_1y N) fi_f_1y.body 0 0 K_f_1y)
noncomputable def it_f_1y_0 (N : Nat) (a : List Txt) (b : List Txt) (n : Nat) : Int → Option Bool := fun i5 => its_f_1y_0 N n (S_f_1y_0 a b i5)
theorem fe_f_1y_0 (N : Nat) : it_f_1y_0 N = f_1y_0 N := funext fun a => funext fun b => funext (lp_all (by kernel_rfl) fun n => by
    show _ = f_1y_0r N a b (it_f_1y_0 N a b n)
    kernel_rfl)
theorem run_f_1y (N : Nat) (a : List (List UInt8)) (b : List (List UInt8)) : runST (ofDs [.bool]) (tabOf tabL) (tabS (phiL_f_1y N)) inl0 N fi_f_1y sg_f_1y [⟨tTxts, a⟩, ⟨tTxts, b⟩] = F.f_1y N a b := by
    show _ = F.f_1yb N (F.f_1y_0 N) a b
    rw [← fe_f_1y_0 N]
    kernel_rfl
def sm_f_1y (N : Nat) : Summ := summOf [.d tTxts false, .d tTxts false] false [.d (.bool) false] [.bool] (F.f_1y N)
theorem con_f_1y (N : Nat) : Contract Tryz.prog 161 (sm_f_1y N) := con_of (N := N) tabOK mixed (callOK_list (l := phiL_f_1y N) trivial) (inl0_ok _) ok_f_1y (by decide) fun a b => run_f_1y N a b
def an_f_2d : Nat → Option Ann
  | 0 => some ⟨{ fr := [(2, Dir.keep), (3, Dir.keep), (5, Dir.keep)], bx := [(2, [Dir.keep, Dir.keep, Dir.keep, Dir.keep, Dir.keep, Dir.keep]), (3, [Dir.keep, Dir.keep, Dir.keep, Dir.keep, Dir.keep, Dir.keep])], os := [] }, [(0, { fr := [], bx := [], os := [] })], { fr := [(4, Dir.keep)], bx := [], os := [] }⟩
  | _ => none
noncomputable def fi_f_2d : FI := ⟨Tryz.f106.results.toList, bodyOf Tryz.f106.body, Tryz.f106.ntmps, an_f_2d⟩
theorem ok_f_2d : FnOK Tryz.prog 106 fi_f_2d := ⟨⟨Tryz.f106, Tryz.func106, by kernel_rfl, rfl, rfl, by kernel_rfl⟩, by kernel_rfl⟩
def phiL_f_2d (N : Nat) : List (Nat × Summ) := [(161, sm_f_1y N)]
def sg_f_2d : Summ := sigOf [.d tWant true, .d tWant true] false [.d (.bool) false]
def S_f_2d_0 (a : Want) (b : Want) (i5 : Int) : St := { fr := [(2, AV.w (V1.one (C.pb 2 0))), (3, AV.w (V1.one (C.pb 3 0))), (5, .w (.one (.v tInt i5)))], H := [(2, Ob.box [C.v tInt a.1, C.v tInt a.2.1, C.v tTxts a.2.2.1, C.v tUse.slice a.2.2.2.1, C.v tTxts a.2.2.2.2.1, C.v tTxts a.2.2.2.2.2]), (3, Ob.box [C.v tInt b.1, C.v tInt b.2.1, C.v tTxts b.2.2.1, C.v tUse.slice b.2.2.2.1, C.v tTxts b.2.2.2.2.1, C.v tTxts b.2.2.2.2.2])] }
noncomputable def E_f_2d (N : Nat) : Env := envOf (tabOf tabL) (tabS (phiL_f_2d N)) inl0 N fi_f_2d []
noncomputable def K_f_2d := (kFun (tabOf tabL) fi_f_2d.res (kT (ofDs [.bool]) sg_f_2d []))
noncomputable def its_f_2d_0 (N : Nat) (n : Nat) : St → Option Bool := fun S' => iter [] (annAt fi_f_2d 0) (code (E_f_2d N) (lpIn fi_f_2d.body 0 0) 0) n S' (contOf (E_f_2d N) fi_f_2d.body 0 0 K_f_2d)
noncomputable def it_f_2d_0 (N : Nat) (a : Want) (b : Want) (n : Nat) : Int → Option Bool := fun i5 => its_f_2d_0 N n (S_f_2d_0 a b i5)
theorem fe_f_2d_0 (N : Nat) : it_f_2d_0 N = f_2d_0 N := funext fun a => funext fun b => funext (lp_all (by kernel_rfl) fun n => by
    show _ = f_2d_0r N a b (it_f_2d_0 N a b n)
    kernel_rfl)
theorem run_f_2d (N : Nat) (a : (Int) × ((Int) × ((List Txt) × ((List ((List UInt8) × ((Int) × (Int)))) × ((List Txt) × (List Txt)))))) (b : (Int) × ((Int) × ((List Txt) × ((List ((List UInt8) × ((Int) × (Int)))) × ((List Txt) × (List Txt)))))) : runST (ofDs [.bool]) (tabOf tabL) (tabS (phiL_f_2d N)) inl0 N fi_f_2d sg_f_2d [⟨tWant, a⟩, ⟨tWant, b⟩] = F.f_2d N a b := by
    show _ = F.f_2db N (F.f_2d_0 N) a b
    rw [← fe_f_2d_0 N]
    kernel_rfl
def sm_f_2d (N : Nat) : Summ := summOf [.d tWant true, .d tWant true] false [.d (.bool) false] [.bool] (F.f_2d N)
theorem con_f_2d (N : Nat) : Contract Tryz.prog 106 (sm_f_2d N) := con_of (N := N) tabOK mixed (callOK_list (l := phiL_f_2d N) (allc rfl (con_f_1y N) trivial)) (inl0_ok _) ok_f_2d (by decide) fun a b => run_f_2d N a b
def an_f_1h : Nat → Option Ann
  | 0 => some ⟨{ fr := [(1, Dir.keep), (2, Dir.keep), (3, Dir.keep), (7, Dir.keep)], bx := [(3, [Dir.keep, Dir.keep, Dir.keep, Dir.keep, Dir.keep])], os := [] }, [(0, { fr := [], bx := [], os := [] })], { fr := [(6, Dir.keep)], bx := [], os := [] }⟩
  | _ => none
noncomputable def fi_f_1h : FI := ⟨Tryz.f162.results.toList, bodyOf Tryz.f162.body, Tryz.f162.ntmps, an_f_1h⟩
theorem ok_f_1h : FnOK Tryz.prog 162 fi_f_1h := ⟨⟨Tryz.f162, Tryz.func162, by kernel_rfl, rfl, rfl, by kernel_rfl⟩, by kernel_rfl⟩
def phiL_f_1h (N : Nat) : List (Nat × Summ) := [(173, sm_f_22 N)]
def sg_f_1h : Summ := sigOf [.d tBook true, .d tTxts false, .d tTxts false] false [.d (.bool) false]
def S_f_1h_0 (b : Book) (x : List Txt) (y : List Txt) (i7 : Int) : St := { fr := [(1, .w (.one (.v tTxts x))), (2, .w (.one (.v tTxts y))), (3, AV.w (V1.one (C.pb 3 0))), (7, .w (.one (.v tInt i7)))], H := [(3, Ob.box [C.v tFoe.slice b.1, C.v tSpot.slice b.2.1, C.v tTxts b.2.2.1, C.v tPart.slice b.2.2.2.1, C.v tInt b.2.2.2.2])] }
noncomputable def E_f_1h (N : Nat) : Env := envOf (tabOf tabL) (tabS (phiL_f_1h N)) inl0 N fi_f_1h []
noncomputable def K_f_1h := (kFun (tabOf tabL) fi_f_1h.res (kT (ofDs [.bool]) sg_f_1h []))
noncomputable def its_f_1h_0 (N : Nat) (n : Nat) : St → Option Bool := fun S' => iter [] (annAt fi_f_1h 0) (code (E_f_1h N) (lpIn fi_f_1h.body 0 0) 0) n S' (contOf (E_f_1h N) fi_f_1h.body 0 0 K_f_1h)
noncomputable def it_f_1h_0 (N : Nat) (b : Book) (x : List Txt) (y : List Txt) (n : Nat) : Int → Option Bool := fun i7 => its_f_1h_0 N n (S_f_1h_0 b x y i7)
theorem fe_f_1h_0 (N : Nat) : it_f_1h_0 N = f_1h_0 N := funext fun b => funext fun x => funext fun y => funext (lp_all (by kernel_rfl) fun n => by
    show _ = f_1h_0r N b x y (it_f_1h_0 N b x y n)
    kernel_rfl)
theorem run_f_1h (N : Nat) (b : (List ((List UInt8) × (List UInt8))) × ((List ((List UInt8) × ((Int) × ((Int) × ((Int) × (List Txt)))))) × ((List Txt) × ((List (((Int) × ((Int) × ((List Txt) × ((List ((List UInt8) × ((Int) × (Int)))) × ((List Txt) × (List Txt)))))) × (Bool))) × (Int))))) (x : List (List UInt8)) (y : List (List UInt8)) : runST (ofDs [.bool]) (tabOf tabL) (tabS (phiL_f_1h N)) inl0 N fi_f_1h sg_f_1h [⟨tBook, b⟩, ⟨tTxts, x⟩, ⟨tTxts, y⟩] = F.f_1h N b x y := by
    show _ = F.f_1hb N (F.f_1h_0 N) b x y
    rw [← fe_f_1h_0 N]
    kernel_rfl
def sm_f_1h (N : Nat) : Summ := summOf [.d tBook true, .d tTxts false, .d tTxts false] false [.d (.bool) false] [.bool] (F.f_1h N)
theorem con_f_1h (N : Nat) : Contract Tryz.prog 162 (sm_f_1h N) := con_of (N := N) tabOK mixed (callOK_list (l := phiL_f_1h N) (allc rfl (con_f_22 N) trivial)) (inl0_ok _) ok_f_1h (by decide) fun b x y => run_f_1h N b x y
def an_f_25 : Nat → Option Ann
  | 0 => some ⟨{ fr := [(0, Dir.keep), (1, Dir.keep), (5, Dir.keep), (6, Dir.keep)], bx := [], os := [] }, [(0, { fr := [(5, Dir.keep)], bx := [], os := [] })], ⟨[], [], []⟩⟩
  | _ => none
noncomputable def fi_f_25 : FI := ⟨Tryz.f164.results.toList, bodyOf Tryz.f164.body, Tryz.f164.ntmps, an_f_25⟩
theorem ok_f_25 : FnOK Tryz.prog 164 fi_f_25 := ⟨⟨Tryz.f164, Tryz.func164, by kernel_rfl, rfl, rfl, by kernel_rfl⟩, by kernel_rfl⟩
def phiL_f_25 (N : Nat) : List (Nat × Summ) := [(102, sm_f_2z N)]
def sg_f_25 : Summ := sigOf [.d tTxts false, .d tTxts false] false [.d tInt false]
def S_f_25_0 (a : List Txt) (b : List Txt) (n5 : Int) (i6 : Int) : St := ⟨[(0, .w (.one (.v tTxts a))), (1, .w (.one (.v tTxts b))), (5, .w (.one (.v tInt n5))), (6, .w (.one (.v tInt i6)))], []⟩
noncomputable def E_f_25 (N : Nat) : Env := envOf (tabOf tabL) (tabS (phiL_f_25 N)) inl0 N fi_f_25 []
noncomputable def K_f_25 := (kFun (tabOf tabL) fi_f_25.res (kT (ofDs [tInt]) sg_f_25 []))
noncomputable def its_f_25_0 (N : Nat) (n : Nat) : St → Option Int := fun S' => iter [] (annAt fi_f_25 0) (code (E_f_25 N) (lpIn fi_f_25.body 0 0) 0) n S' (contOf (E_f_25 N) fi_f_25.body 0 0 K_f_25)
noncomputable def it_f_25_0 (N : Nat) (a : List Txt) (b : List Txt) (n : Nat) : Int → Int → Option Int := fun n5 i6 => its_f_25_0 N n (S_f_25_0 a b n5 i6)
theorem fe_f_25_0 (N : Nat) : it_f_25_0 N = f_25_0 N := funext fun a => funext fun b => funext (lp_all (by kernel_rfl) fun n => by
    show _ = f_25_0r N a b (it_f_25_0 N a b n)
    kernel_rfl)
theorem run_f_25 (N : Nat) (a : List (List UInt8)) (b : List (List UInt8)) : runST (ofDs [tInt]) (tabOf tabL) (tabS (phiL_f_25 N)) inl0 N fi_f_25 sg_f_25 [⟨tTxts, a⟩, ⟨tTxts, b⟩] = F.f_25 N a b := by
    show _ = F.f_25b N (F.f_25_0 N) a b
    rw [← fe_f_25_0 N]
    kernel_rfl
def sm_f_25 (N : Nat) : Summ := summOf [.d tTxts false, .d tTxts false] false [.d tInt false] [tInt] (F.f_25 N)
theorem con_f_25 (N : Nat) : Contract Tryz.prog 164 (sm_f_25 N) := con_of (N := N) tabOK mixed (callOK_list (l := phiL_f_25 N) (allc rfl (con_f_2z N) trivial)) (inl0_ok _) ok_f_25 (by decide) fun a b => run_f_25 N a b
def an_f_1w : Nat → Option Ann
  | 0 => some ⟨{ fr := [(2, Dir.keep), (3, Dir.keep), (5, Dir.keep)], bx := [(2, [Dir.keep, Dir.keep, Dir.keep, Dir.keep, Dir.keep]), (3, [Dir.keep, Dir.keep, Dir.keep, Dir.keep, Dir.keep, Dir.keep])], os := [] }, [(0, { fr := [], bx := [], os := [] })], { fr := [(4, Dir.keep)], bx := [], os := [] }⟩
  | _ => none
noncomputable def fi_f_1w : FI := ⟨Tryz.f110.results.toList, bodyOf Tryz.f110.body, Tryz.f110.ntmps, an_f_1w⟩
theorem ok_f_1w : FnOK Tryz.prog 110 fi_f_1w := ⟨⟨Tryz.f110, Tryz.func110, by kernel_rfl, rfl, rfl, by kernel_rfl⟩, by kernel_rfl⟩
def phiL_f_1w (N : Nat) : List (Nat × Summ) := [(162, sm_f_1h N), (62, sm_f_2i N), (163, sm_f_2y N), (164, sm_f_25 N)]
def sg_f_1w : Summ := sigOf [.d tBook true, .d tWant true] false [.d tInt false]
def S_f_1w_0 (b : Book) (w : Want) (i5 : Int) : St := { fr := [(2, AV.w (V1.one (C.pb 2 0))), (3, AV.w (V1.one (C.pb 3 0))), (5, .w (.one (.v tInt i5)))], H := [(2, Ob.box [C.v tFoe.slice b.1, C.v tSpot.slice b.2.1, C.v tTxts b.2.2.1, C.v tPart.slice b.2.2.2.1, C.v tInt b.2.2.2.2]), (3, Ob.box [C.v tInt w.1, C.v tInt w.2.1, C.v tTxts w.2.2.1, C.v tUse.slice w.2.2.2.1, C.v tTxts w.2.2.2.2.1, C.v tTxts w.2.2.2.2.2])] }
noncomputable def E_f_1w (N : Nat) : Env := envOf (tabOf tabL) (tabS (phiL_f_1w N)) inl0 N fi_f_1w []
noncomputable def K_f_1w := (kFun (tabOf tabL) fi_f_1w.res (kT (ofDs [tInt]) sg_f_1w []))
noncomputable def its_f_1w_0 (N : Nat) (n : Nat) : St → Option Int := fun S' => iter [] (annAt fi_f_1w 0) (code (E_f_1w N) (lpIn fi_f_1w.body 0 0) 0) n S' (contOf (E_f_1w N) fi_f_1w.body 0 0 K_f_1w)
noncomputable def it_f_1w_0 (N : Nat) (b : Book) (w : Want) (n : Nat) : Int → Option Int := fun i5 => its_f_1w_0 N n (S_f_1w_0 b w i5)
theorem fe_f_1w_0 (N : Nat) : it_f_1w_0 N = f_1w_0 N := funext fun b => funext fun w => funext (lp_all (by kernel_rfl) fun n => by
    show _ = f_1w_0r N b w (it_f_1w_0 N b w n)
    kernel_rfl)
theorem run_f_1w (N : Nat) (b : (List ((List UInt8) × (List UInt8))) × ((List ((List UInt8) × ((Int) × ((Int) × ((Int) × (List Txt)))))) × ((List Txt) × ((List (((Int) × ((Int) × ((List Txt) × ((List ((List UInt8) × ((Int) × (Int)))) × ((List Txt) × (List Txt)))))) × (Bool))) × (Int))))) (w : (Int) × ((Int) × ((List Txt) × ((List ((List UInt8) × ((Int) × (Int)))) × ((List Txt) × (List Txt)))))) : runST (ofDs [tInt]) (tabOf tabL) (tabS (phiL_f_1w N)) inl0 N fi_f_1w sg_f_1w [⟨tBook, b⟩, ⟨tWant, w⟩] = F.f_1w N b w := by
    show _ = F.f_1wb N (F.f_1w_0 N) b w
    rw [← fe_f_1w_0 N]
    kernel_rfl
def sm_f_1w (N : Nat) : Summ := summOf [.d tBook true, .d tWant true] false [.d tInt false] [tInt] (F.f_1w N)
theorem con_f_1w (N : Nat) : Contract Tryz.prog 110 (sm_f_1w N) := con_of (N := N) tabOK mixed (callOK_list (l := phiL_f_1w N) (allc rfl (con_f_1h N) (allc rfl (con_f_2i N) (allc rfl (con_f_2y N) (allc rfl (con_f_25 N) trivial))))) (inl0_ok _) ok_f_1w (by decide) fun b w => run_f_1w N b w
def an_f_1k : Nat → Option Ann
  | 0 => some ⟨{ fr := [(2, Dir.keep), (3, Dir.keep), (5, Dir.keep)], bx := [(2, [Dir.keep, Dir.keep, Dir.keep, Dir.keep, Dir.keep]), (3, [Dir.keep, Dir.keep, Dir.keep, Dir.keep, Dir.keep, Dir.keep])], os := [] }, [(0, { fr := [], bx := [], os := [] })], { fr := [(4, Dir.keep)], bx := [], os := [] }⟩
  | _ => none
noncomputable def fi_f_1k : FI := ⟨Tryz.f111.results.toList, bodyOf Tryz.f111.body, Tryz.f111.ntmps, an_f_1k⟩
theorem ok_f_1k : FnOK Tryz.prog 111 fi_f_1k := ⟨⟨Tryz.f111, Tryz.func111, by kernel_rfl, rfl, rfl, by kernel_rfl⟩, by kernel_rfl⟩
def phiL_f_1k (N : Nat) : List (Nat × Summ) := [(62, sm_f_2i N)]
def sg_f_1k : Summ := sigOf [.d tBook true, .d tWant true] false [.d tInt false]
def S_f_1k_0 (b : Book) (w : Want) (i5 : Int) : St := { fr := [(2, AV.w (V1.one (C.pb 2 0))), (3, AV.w (V1.one (C.pb 3 0))), (5, .w (.one (.v tInt i5)))], H := [(2, Ob.box [C.v tFoe.slice b.1, C.v tSpot.slice b.2.1, C.v tTxts b.2.2.1, C.v tPart.slice b.2.2.2.1, C.v tInt b.2.2.2.2]), (3, Ob.box [C.v tInt w.1, C.v tInt w.2.1, C.v tTxts w.2.2.1, C.v tUse.slice w.2.2.2.1, C.v tTxts w.2.2.2.2.1, C.v tTxts w.2.2.2.2.2])] }
noncomputable def E_f_1k (N : Nat) : Env := envOf (tabOf tabL) (tabS (phiL_f_1k N)) inl0 N fi_f_1k []
noncomputable def K_f_1k := (kFun (tabOf tabL) fi_f_1k.res (kT (ofDs [tInt]) sg_f_1k []))
noncomputable def its_f_1k_0 (N : Nat) (n : Nat) : St → Option Int := fun S' => iter [] (annAt fi_f_1k 0) (code (E_f_1k N) (lpIn fi_f_1k.body 0 0) 0) n S' (contOf (E_f_1k N) fi_f_1k.body 0 0 K_f_1k)
noncomputable def it_f_1k_0 (N : Nat) (b : Book) (w : Want) (n : Nat) : Int → Option Int := fun i5 => its_f_1k_0 N n (S_f_1k_0 b w i5)
theorem fe_f_1k_0 (N : Nat) : it_f_1k_0 N = f_1k_0 N := funext fun b => funext fun w => funext (lp_all (by kernel_rfl) fun n => by
    show _ = f_1k_0r N b w (it_f_1k_0 N b w n)
    kernel_rfl)
theorem run_f_1k (N : Nat) (b : (List ((List UInt8) × (List UInt8))) × ((List ((List UInt8) × ((Int) × ((Int) × ((Int) × (List Txt)))))) × ((List Txt) × ((List (((Int) × ((Int) × ((List Txt) × ((List ((List UInt8) × ((Int) × (Int)))) × ((List Txt) × (List Txt)))))) × (Bool))) × (Int))))) (w : (Int) × ((Int) × ((List Txt) × ((List ((List UInt8) × ((Int) × (Int)))) × ((List Txt) × (List Txt)))))) : runST (ofDs [tInt]) (tabOf tabL) (tabS (phiL_f_1k N)) inl0 N fi_f_1k sg_f_1k [⟨tBook, b⟩, ⟨tWant, w⟩] = F.f_1k N b w := by
    show _ = F.f_1kb N (F.f_1k_0 N) b w
    rw [← fe_f_1k_0 N]
    kernel_rfl
def sm_f_1k (N : Nat) : Summ := summOf [.d tBook true, .d tWant true] false [.d tInt false] [tInt] (F.f_1k N)
theorem con_f_1k (N : Nat) : Contract Tryz.prog 111 (sm_f_1k N) := con_of (N := N) tabOK mixed (callOK_list (l := phiL_f_1k N) (allc rfl (con_f_2i N) trivial)) (inl0_ok _) ok_f_1k (by decide) fun b w => run_f_1k N b w
def an_f_1b : Nat → Option Ann
  | 0 => some ⟨{ fr := [(2, Dir.keep), (3, Dir.keep), (6, Dir.keep)], bx := [(2, [Dir.keep, Dir.keep, Dir.keep, Dir.keep, Dir.keep]), (3, [Dir.keep, Dir.keep, Dir.keep, Dir.keep, Dir.keep, Dir.keep])], os := [] }, [(0, { fr := [(2, Dir.keep), (3, Dir.keep)], bx := [(2, [Dir.keep, Dir.keep, Dir.keep, Dir.keep, Dir.keep]), (3, [Dir.keep, Dir.keep, Dir.keep, Dir.keep, Dir.keep, Dir.keep])], os := [] })], { fr := [(4, Dir.keep)], bx := [], os := [] }⟩
  | 2 => some ⟨{ fr := [(2, Dir.keep), (3, Dir.keep), (7, Dir.keep)], bx := [(2, [Dir.keep, Dir.keep, Dir.keep, Dir.keep, Dir.keep]), (3, [Dir.keep, Dir.keep, Dir.keep, Dir.keep, Dir.keep, Dir.keep])], os := [] }, [(2, { fr := [(2, Dir.keep), (3, Dir.keep)], bx := [(2, [Dir.keep, Dir.keep, Dir.keep, Dir.keep, Dir.keep]), (3, [Dir.keep, Dir.keep, Dir.keep, Dir.keep, Dir.keep, Dir.keep])], os := [] })], { fr := [(4, Dir.keep)], bx := [], os := [] }⟩
  | _ => none
noncomputable def fi_f_1b : FI := ⟨Tryz.f38.results.toList, bodyOf Tryz.f38.body, Tryz.f38.ntmps, an_f_1b⟩
theorem ok_f_1b : FnOK Tryz.prog 38 fi_f_1b := ⟨⟨Tryz.f38, Tryz.func38, by kernel_rfl, rfl, rfl, by kernel_rfl⟩, by kernel_rfl⟩
def phiL_f_1b (N : Nat) : List (Nat × Summ) := [(45, sm_f_10 N), (47, sm_f_11 N), (105, sm_f_23 N), (58, sm_f_2h N), (106, sm_f_2d N), (108, sm_f_2j N), (107, sm_f_21 N), (109, sm_f_1i N), (110, sm_f_1w N), (111, sm_f_1k N)]
def sg_f_1b : Summ := sigOf [.d tBook true, .d tWant true] false [.d tInt false]
def S_f_1b_2 (b : Book) (w : Want) (i7 : Int) : St := { fr := [(2, AV.w (V1.one (C.pb 2 0))), (3, AV.w (V1.one (C.pb 3 0))), (7, .w (.one (.v tInt i7)))], H := [(2, Ob.box [C.v tFoe.slice b.1, C.v tSpot.slice b.2.1, C.v tTxts b.2.2.1, C.v tPart.slice b.2.2.2.1, C.v tInt b.2.2.2.2]), (3, Ob.box [C.v tInt w.1, C.v tInt w.2.1, C.v tTxts w.2.2.1, C.v tUse.slice w.2.2.2.1, C.v tTxts w.2.2.2.2.1, C.v tTxts w.2.2.2.2.2])] }
def S_f_1b_0 (b : Book) (w : Want) (i6 : Int) : St := { fr := [(2, AV.w (V1.one (C.pb 2 0))), (3, AV.w (V1.one (C.pb 3 0))), (6, .w (.one (.v tInt i6)))], H := [(2, Ob.box [C.v tFoe.slice b.1, C.v tSpot.slice b.2.1, C.v tTxts b.2.2.1, C.v tPart.slice b.2.2.2.1, C.v tInt b.2.2.2.2]), (3, Ob.box [C.v tInt w.1, C.v tInt w.2.1, C.v tTxts w.2.2.1, C.v tUse.slice w.2.2.2.1, C.v tTxts w.2.2.2.2.1, C.v tTxts w.2.2.2.2.2])] }
noncomputable def E_f_1b (N : Nat) : Env := envOf (tabOf tabL) (tabS (phiL_f_1b N)) inl0 N fi_f_1b []
noncomputable def K_f_1b := (kFun (tabOf tabL) fi_f_1b.res (kT (ofDs [tInt]) sg_f_1b []))
noncomputable def its_f_1b_2 (N : Nat) (n : Nat) : St → Option Int := fun S' => iter [] (annAt fi_f_1b 2) (code (E_f_1b N) (lpIn fi_f_1b.body 0 2) 2) n S' (contOf (E_f_1b N) fi_f_1b.body 0 2 K_f_1b)
noncomputable def it_f_1b_2 (N : Nat) (b : Book) (w : Want) (n : Nat) : Int → Option Int := fun i7 => its_f_1b_2 N n (S_f_1b_2 b w i7)
theorem fe_f_1b_2 (N : Nat) : it_f_1b_2 N = f_1b_2 N := funext fun b => funext fun w => funext (lp_all (by kernel_rfl) fun n => by
    show _ = f_1b_2r N b w (it_f_1b_2 N b w n)
    kernel_rfl)
noncomputable def its_f_1b_0 (N : Nat) (n : Nat) : St → Option Int := fun S' => iter [] (annAt fi_f_1b 0) (code (E_f_1b N) (lpIn fi_f_1b.body 0 0) 0) n S' (contOf (E_f_1b N) fi_f_1b.body 0 0 K_f_1b)
noncomputable def it_f_1b_0 (N : Nat) (b : Book) (w : Want) (n : Nat) : Int → Option Int := fun i6 => its_f_1b_0 N n (S_f_1b_0 b w i6)
theorem fe_f_1b_0 (N : Nat) : it_f_1b_0 N = f_1b_0 N := funext fun b => funext fun w => funext (lp_all (by kernel_rfl) fun n => by
    show _ = f_1b_0r N (f_1b_2 N) b w (it_f_1b_0 N b w n)
    rw [show f_1b_2 N = it_f_1b_2 N from (fe_f_1b_2 N).symm]
    kernel_rfl)
theorem run_f_1b (N : Nat) (b : (List ((List UInt8) × (List UInt8))) × ((List ((List UInt8) × ((Int) × ((Int) × ((Int) × (List Txt)))))) × ((List Txt) × ((List (((Int) × ((Int) × ((List Txt) × ((List ((List UInt8) × ((Int) × (Int)))) × ((List Txt) × (List Txt)))))) × (Bool))) × (Int))))) (w : (Int) × ((Int) × ((List Txt) × ((List ((List UInt8) × ((Int) × (Int)))) × ((List Txt) × (List Txt)))))) : runST (ofDs [tInt]) (tabOf tabL) (tabS (phiL_f_1b N)) inl0 N fi_f_1b sg_f_1b [⟨tBook, b⟩, ⟨tWant, w⟩] = F.f_1b N b w := by
    show _ = F.f_1bb N (F.f_1b_0 N) b w
    rw [← fe_f_1b_0 N]
    kernel_rfl
def sm_f_1b (N : Nat) : Summ := summOf [.d tBook true, .d tWant true] false [.d tInt false] [tInt] (F.f_1b N)
theorem con_f_1b (N : Nat) : Contract Tryz.prog 38 (sm_f_1b N) := con_of (N := N) tabOK mixed (callOK_list (l := phiL_f_1b N) (allc rfl (con_f_10 N) (allc rfl (con_f_11 N) (allc rfl (con_f_23 N) (allc rfl (con_f_2h N) (allc rfl (con_f_2d N) (allc rfl (con_f_2j N) (allc rfl (con_f_21 N) (allc rfl (con_f_1i N) (allc rfl (con_f_1w N) (allc rfl (con_f_1k N) trivial))))))))))) (inl0_ok _) ok_f_1b (by decide) fun b w => run_f_1b N b w
def an_f_30 : Nat → Option Ann
  | 0 => some ⟨{ fr := [(2, Dir.keep), (3, Dir.keep), (4, Dir.keep), (5, Dir.keep)], bx := [(2, [Dir.own 1000200 106 tFoe, Dir.own 1000201 34 tSpot, Dir.own 1000202 9 Ty.str, Dir.dow 1000203 94 [9, 82, 9, 9] tPart, Dir.keep]), (3, [Dir.keep, Dir.keep, Dir.keep, Dir.keep, Dir.keep, Dir.keep]), (4, [Dir.keep, Dir.keep, Dir.keep, Dir.keep, Dir.keep])], os := [] }, [(0, { fr := [(2, Dir.keep), (3, Dir.keep), (4, Dir.keep)], bx := [(2, [Dir.own 1000200 106 tFoe, Dir.own 1000201 34 tSpot, Dir.own 1000202 9 Ty.str, Dir.dow 1000203 94 [9, 82, 9, 9] tPart, Dir.keep]), (3, [Dir.keep, Dir.keep, Dir.keep, Dir.keep, Dir.keep, Dir.keep]), (4, [Dir.keep, Dir.keep, Dir.keep, Dir.keep, Dir.keep])], os := [] })], ⟨[], [], []⟩⟩
  | 2 => some ⟨{ fr := [(2, Dir.keep), (3, Dir.keep), (4, Dir.keep), (5, Dir.keep), (6, Dir.keep), (7, Dir.keep), (8, Dir.keep)], bx := [(2, [Dir.own 1000200 106 tFoe, Dir.own 1000201 34 tSpot, Dir.own 1000202 9 Ty.str, Dir.dow 1000203 94 [9, 82, 9, 9] tPart, Dir.keep]), (3, [Dir.keep, Dir.keep, Dir.keep, Dir.keep, Dir.keep, Dir.keep]), (4, [Dir.keep, Dir.keep, Dir.keep, Dir.keep, Dir.keep]), (6, [Dir.keep, Dir.keep, Dir.keep])], os := [] }, [(2, { fr := [(2, Dir.keep), (3, Dir.keep), (4, Dir.keep), (5, Dir.keep)], bx := [(2, [Dir.own 1000200 106 tFoe, Dir.own 1000201 34 tSpot, Dir.own 1000202 9 Ty.str, Dir.dow 1000203 94 [9, 82, 9, 9] tPart, Dir.keep]), (3, [Dir.keep, Dir.keep, Dir.keep, Dir.keep, Dir.keep, Dir.keep]), (4, [Dir.keep, Dir.keep, Dir.keep, Dir.keep, Dir.keep])], os := [] })], ⟨[], [], []⟩⟩
  | _ => none
noncomputable def fi_f_30 : FI := ⟨Tryz.f68.results.toList, bodyOf Tryz.f68.body, Tryz.f68.ntmps, an_f_30⟩
theorem ok_f_30 : FnOK Tryz.prog 68 fi_f_30 := ⟨⟨Tryz.f68, Tryz.func68, by kernel_rfl, rfl, rfl, by kernel_rfl⟩, by kernel_rfl⟩
def phiL_f_30 (N : Nat) : List (Nat × Summ) := [(62, sm_f_2i N), (142, sm_f_1v N), (130, sm_f_2e N)]
def sg_f_30 : Summ := sigOf [.sp [.mv 106 tFoe none, .mv 34 tSpot (some [9]), .mv 9 (.str) none, .mv 94 tPart (some [9, 82, 9, 9]), .dd tInt], .d tWant true] true [.own tBook true [(106, none), (34, none), (9, none), (94, (some [9, 82, 9, 9]))]]
def S_f_30_2 (b0 : List Foe) (b2 : List Txt) (b3 : List Part) (b4 : Int) (w : Want) (t4c4 : Int) (i5 : Int) (r_4 : Int) (u6c0_1 : Txt) (u6c1_1 : Int) (u6c2_1 : Int) (n8_1 : Int) (b2c1a_2 : List Spot) : St := { fr := [(2, AV.w (V1.one (C.pb 2 0))), (3, AV.w (V1.one (C.pb 3 0))), (4, AV.w (V1.one (C.pb 4 0))), (5, .w (.one (.v tInt i5))), (6, AV.w (V1.one (C.pb 6 0))), (7, .w (.one (.v tInt r_4))), (8, .w (.one (.v tInt n8_1)))], H := [(2, Ob.box [C.arr 1000200, C.arr 1000201, C.arr 1000202, C.arr 1000203, C.v tInt b4]), (3, Ob.box [C.v tInt w.1, C.v tInt w.2.1, C.v tTxts w.2.2.1, C.v tUse.slice w.2.2.2.1, C.v tTxts w.2.2.2.2.1, C.v tTxts w.2.2.2.2.2]), (4, Ob.box [C.emp, C.emp, C.emp, C.emp, C.v tInt t4c4]), (6, Ob.box [C.v Ty.str u6c0_1, C.v tInt u6c1_1, C.v tInt u6c2_1]), (1000200, Ob.arr 106 tFoe b0), (1000201, Ob.arr 34 tSpot b2c1a_2), (1000202, Ob.arr 9 Ty.str b2), (1000203, Ob.arr 94 tPart b3 (Dp.yes [9, 82, 9, 9]))] }
def S_f_30_0 (b0 : List Foe) (b2 : List Txt) (b3 : List Part) (b4 : Int) (w : Want) (t4c4 : Int) (i5 : Int) (b2c1a : List Spot) : St := { fr := [(2, AV.w (V1.one (C.pb 2 0))), (3, AV.w (V1.one (C.pb 3 0))), (4, AV.w (V1.one (C.pb 4 0))), (5, .w (.one (.v tInt i5)))], H := [(2, Ob.box [C.arr 1000200, C.arr 1000201, C.arr 1000202, C.arr 1000203, C.v tInt b4]), (3, Ob.box [C.v tInt w.1, C.v tInt w.2.1, C.v tTxts w.2.2.1, C.v tUse.slice w.2.2.2.1, C.v tTxts w.2.2.2.2.1, C.v tTxts w.2.2.2.2.2]), (4, Ob.box [C.emp, C.emp, C.emp, C.emp, C.v tInt t4c4]), (1000200, Ob.arr 106 tFoe b0), (1000201, Ob.arr 34 tSpot b2c1a), (1000202, Ob.arr 9 Ty.str b2), (1000203, Ob.arr 94 tPart b3 (Dp.yes [9, 82, 9, 9]))] }
noncomputable def E_f_30 (N : Nat) : Env := envOf (tabOf tabL) (tabS (phiL_f_30 N)) inl0 N fi_f_30 []
noncomputable def K_f_30 := (kFun (tabOf tabL) fi_f_30.res (kT (ofDs [tBook]) sg_f_30 [(600000, .mv 106 tFoe none), (600001, .mv 34 tSpot (some [9])), (600002, .mv 9 (.str) none), (600003, .mv 94 tPart (some [9, 82, 9, 9]))]))
noncomputable def its_f_30_2 (N : Nat) (nxS0 : St → Option Book) (n : Nat) : St → Option Book := fun S' => iter [] (annAt fi_f_30 2) (code (E_f_30 N) (lpIn (lpIn fi_f_30.body 0 0) 0 2) 2) n S' (contOf (E_f_30 N) (lpIn fi_f_30.body 0 0) 0 2 (kLoop [] (annAt fi_f_30 0) nxS0 (contOf (E_f_30 N) fi_f_30.body 0 0 K_f_30)))
noncomputable def it_f_30_2 (N : Nat) (nxS0 : St → Option Book) (b0 : List Foe) (b2 : List Txt) (b3 : List Part) (b4 : Int) (w : Want) (t4c4 : Int) (i5 : Int) (r_4 : Int) (u6c0_1 : Txt) (u6c1_1 : Int) (u6c2_1 : Int) (n : Nat) : Int → (List Spot) → Option Book := fun n8_1 b2c1a_2 => its_f_30_2 N nxS0 n (S_f_30_2 b0 b2 b3 b4 w t4c4 i5 r_4 u6c0_1 u6c1_1 u6c2_1 n8_1 b2c1a_2)
theorem fe_f_30_2 (N : Nat) (nxS0 : St → Option Book) (b0 : List Foe) (b2 : List Txt) (b3 : List Part) (b4 : Int) (w : Want) (t4c4 : Int) : it_f_30_2 N nxS0 b0 b2 b3 b4 w t4c4 = f_30_2 N (fun i5 b2c1a => nxS0 (S_f_30_0 b0 b2 b3 b4 w t4c4 i5 b2c1a)) b0 b2 b3 b4 w t4c4 := funext fun i5 => funext fun r_4 => funext fun u6c0_1 => funext fun u6c1_1 => funext fun u6c2_1 => funext (lp_all (by kernel_rfl) fun n => by
    show _ = f_30_2r N (fun i5 b2c1a => nxS0 (S_f_30_0 b0 b2 b3 b4 w t4c4 i5 b2c1a)) b0 b2 b3 b4 w t4c4 i5 r_4 u6c0_1 u6c1_1 u6c2_1 (it_f_30_2 N nxS0 b0 b2 b3 b4 w t4c4 i5 r_4 u6c0_1 u6c1_1 u6c2_1 n)
    kernel_rfl)
noncomputable def its_f_30_0 (N : Nat) (n : Nat) : St → Option Book := fun S' => iter [] (annAt fi_f_30 0) (code (E_f_30 N) (lpIn fi_f_30.body 0 0) 0) n S' (contOf (E_f_30 N) fi_f_30.body 0 0 K_f_30)
noncomputable def it_f_30_0 (N : Nat) (b0 : List Foe) (b2 : List Txt) (b3 : List Part) (b4 : Int) (w : Want) (t4c4 : Int) (n : Nat) : Int → (List Spot) → Option Book := fun i5 b2c1a => its_f_30_0 N n (S_f_30_0 b0 b2 b3 b4 w t4c4 i5 b2c1a)
theorem fe_f_30_0 (N : Nat) : it_f_30_0 N = f_30_0 N := funext fun b0 => funext fun b2 => funext fun b3 => funext fun b4 => funext fun w => funext fun t4c4 => funext (lp_all (by kernel_rfl) fun n => by
    show _ = f_30_0r N (f_30_2 N (it_f_30_0 N b0 b2 b3 b4 w t4c4 n) b0 b2 b3 b4 w t4c4) b0 b2 b3 b4 w t4c4 (it_f_30_0 N b0 b2 b3 b4 w t4c4 n)
    rw [show f_30_2 N (it_f_30_0 N b0 b2 b3 b4 w t4c4 n) b0 b2 b3 b4 w t4c4 = it_f_30_2 N (its_f_30_0 N n) b0 b2 b3 b4 w t4c4 from (fe_f_30_2 N (its_f_30_0 N n) b0 b2 b3 b4 w t4c4).symm]
    kernel_rfl)
theorem run_f_30 (N : Nat) (b0 : List ((List UInt8) × (List UInt8))) (b1 : List ((List UInt8) × ((Int) × ((Int) × ((Int) × (List Txt)))))) (b2 : List (List UInt8)) (b3 : List (((Int) × ((Int) × ((List Txt) × ((List ((List UInt8) × ((Int) × (Int)))) × ((List Txt) × (List Txt)))))) × (Bool))) (b4 : Int) (w : (Int) × ((Int) × ((List Txt) × ((List ((List UInt8) × ((Int) × (Int)))) × ((List Txt) × (List Txt)))))) : runST (ofDs [tBook]) (tabOf tabL) (tabS (phiL_f_30 N)) inl0 N fi_f_30 sg_f_30 [⟨.slice tFoe, b0⟩, ⟨.slice tSpot, b1⟩, ⟨tTxts, b2⟩, ⟨.slice tPart, b3⟩, ⟨tInt, b4⟩, ⟨tWant, w⟩] = F.f_30 N b0 b1 b2 b3 b4 w := by
    show _ = F.f_30b N (F.f_30_0 N) b0 b1 b2 b3 b4 w
    rw [← fe_f_30_0 N]
    kernel_rfl
def sm_f_30 (N : Nat) : Summ := summOf [.sp [.mv 106 tFoe none, .mv 34 tSpot (some [9]), .mv 9 (.str) none, .mv 94 tPart (some [9, 82, 9, 9]), .dd tInt], .d tWant true] true [.own tBook true [(106, none), (34, none), (9, none), (94, (some [9, 82, 9, 9]))]] [tBook] (F.f_30 N)
theorem con_f_30 (N : Nat) : Contract Tryz.prog 68 (sm_f_30 N) := con_of (N := N) tabOK mixed (callOK_list (l := phiL_f_30 N) (allc rfl (con_f_2i N) (allc rfl (con_f_1v N) (allc rfl (con_f_2e N) trivial)))) (inl0_ok _) ok_f_30 (by decide) fun b0 b1 b2 b3 b4 w => run_f_30 N b0 b1 b2 b3 b4 w
def an_f_14 : Nat → Option Ann := fun _ => none
noncomputable def fi_f_14 : FI := ⟨Tryz.f20.results.toList, bodyOf Tryz.f20.body, Tryz.f20.ntmps, an_f_14⟩
theorem ok_f_14 : FnOK Tryz.prog 20 fi_f_14 := ⟨⟨Tryz.f20, Tryz.func20, by kernel_rfl, rfl, rfl, by kernel_rfl⟩, by kernel_rfl⟩
def phiL_f_14 (N : Nat) : List (Nat × Summ) := [(38, sm_f_1b N), (52, sm_f_2f N), (67, sm_f_37 N), (58, sm_f_2h N), (68, sm_f_30 N)]
def sg_f_14 : Summ := sigOf [.d tBook true, .d tWant true] false [.own tBook true [(106, none), (34, (some [9])), (9, none), (94, (some [9, 82, 9, 9]))], .d tInt false]
theorem run_f_14 (N : Nat) (b : (List ((List UInt8) × (List UInt8))) × ((List ((List UInt8) × ((Int) × ((Int) × ((Int) × (List Txt)))))) × ((List Txt) × ((List (((Int) × ((Int) × ((List Txt) × ((List ((List UInt8) × ((Int) × (Int)))) × ((List Txt) × (List Txt)))))) × (Bool))) × (Int))))) (w : (Int) × ((Int) × ((List Txt) × ((List ((List UInt8) × ((Int) × (Int)))) × ((List Txt) × (List Txt)))))) : runST (ofDs [tBook, tInt]) (tabOf tabL) (tabS (phiL_f_14 N)) inl0 N fi_f_14 sg_f_14 [⟨tBook, b⟩, ⟨tWant, w⟩] = F.f_14 N b w := by kernel_rfl
def sm_f_14 (N : Nat) : Summ := summOf [.d tBook true, .d tWant true] false [.own tBook true [(106, none), (34, (some [9])), (9, none), (94, (some [9, 82, 9, 9]))], .d tInt false] [tBook, tInt] (F.f_14 N)
theorem con_f_14 (N : Nat) : Contract Tryz.prog 20 (sm_f_14 N) := con_of (N := N) tabOK mixed (callOK_list (l := phiL_f_14 N) (allc rfl (con_f_1b N) (allc rfl (con_f_2f N) (allc rfl (con_f_37 N) (allc rfl (con_f_2h N) (allc rfl (con_f_30 N) trivial)))))) (inl0_ok _) ok_f_14 (by decide) fun b w => run_f_14 N b w
def an_f_2p : Nat → Option Ann := fun _ => none
noncomputable def fi_f_2p : FI := ⟨Tryz.f55.results.toList, bodyOf Tryz.f55.body, Tryz.f55.ntmps, an_f_2p⟩
theorem ok_f_2p : FnOK Tryz.prog 55 fi_f_2p := ⟨⟨Tryz.f55, Tryz.func55, by kernel_rfl, rfl, rfl, by kernel_rfl⟩, by kernel_rfl⟩
def phiL_f_2p (N : Nat) : List (Nat × Summ) := [(13, sm_f_1e N), (15, sm_f_1c N), (20, sm_f_14 N)]
def sg_f_2p : Summ := sigOf [.d tBook true, .d tDo true] true [.d tBook true]
theorem run_f_2p (N : Nat) (b : (List ((List UInt8) × (List UInt8))) × ((List ((List UInt8) × ((Int) × ((Int) × ((Int) × (List Txt)))))) × ((List Txt) × ((List (((Int) × ((Int) × ((List Txt) × ((List ((List UInt8) × ((Int) × (Int)))) × ((List Txt) × (List Txt)))))) × (Bool))) × (Int))))) (d : ((Int) × ((Int) × ((List Txt) × ((List ((List UInt8) × ((Int) × (Int)))) × ((List Txt) × (List Txt)))))) × ((Int) × ((Int) × ((Int) × (Bool))))) : runST (ofDs [tBook]) (tabOf tabL) (tabS (phiL_f_2p N)) inl0 N fi_f_2p sg_f_2p [⟨tBook, b⟩, ⟨tDo, d⟩] = F.f_2p N b d := by kernel_rfl
def sm_f_2p (N : Nat) : Summ := summOf [.d tBook true, .d tDo true] true [.d tBook true] [tBook] (F.f_2p N)
theorem con_f_2p (N : Nat) : Contract Tryz.prog 55 (sm_f_2p N) := con_of (N := N) tabOK mixed (callOK_list (l := phiL_f_2p N) (allc rfl (con_f_1e N) (allc rfl (con_f_1c N) (allc rfl (con_f_14 N) trivial)))) (inl0_ok _) ok_f_2p (by decide) fun b d => run_f_2p N b d
def an_f_2l : Nat → Option Ann
  | 0 => some ⟨{ fr := [(0, Dir.keep), (2, Dir.keep), (3, Dir.keep), (4, Dir.keep)], bx := [(500000, [Dir.keep, Dir.keep]), (2, [Dir.keep, Dir.keep, Dir.keep, Dir.keep, Dir.keep]), (3, [Dir.keep, Dir.keep, Dir.keep, Dir.keep, Dir.keep])], os := [] }, [(0, { fr := [(2, Dir.keep), (3, Dir.keep)], bx := [(500000, [Dir.keep, Dir.keep]), (2, [Dir.keep, Dir.keep, Dir.keep, Dir.keep, Dir.keep]), (3, [Dir.keep, Dir.keep, Dir.keep, Dir.keep, Dir.keep])], os := [] })], ⟨[], [], []⟩⟩
  | _ => none
noncomputable def fi_f_2l : FI := ⟨Tryz.f157.results.toList, bodyOf Tryz.f157.body, Tryz.f157.ntmps, an_f_2l⟩
theorem ok_f_2l : FnOK Tryz.prog 157 fi_f_2l := ⟨⟨Tryz.f157, Tryz.func157, by kernel_rfl, rfl, rfl, by kernel_rfl⟩, by kernel_rfl⟩
def phiL_f_2l (N : Nat) : List (Nat × Summ) := [(51, sm_f_2k N), (53, sm_f_1g N), (54, sm_f_2m N), (55, sm_f_2p N)]
def sg_f_2l : Summ := sigOf [.bx (.pair (.slice tByte) tInt)] true [.d tBook true]
def S_f_2l_0 (t2c4 : Int) (n4 : Int) (rpc0 : List Int) (rpc1 : Int) (b3c0 : List Foe) (b3c1 : List Spot) (b3c2 : List Txt) (b3c3 : List Part) (b3c4 : Int) : St := { fr := [(0, AV.w (V1.one (C.pb 500000 0))), (2, AV.w (V1.one (C.pb 2 0))), (3, AV.w (V1.one (C.pb 3 0))), (4, .w (.one (.v tInt n4)))], H := [(500000, Ob.box [C.v tByte.slice rpc0, C.v tInt rpc1]), (2, Ob.box [C.emp, C.emp, C.emp, C.emp, C.v tInt t2c4]), (3, Ob.box [C.v tFoe.slice b3c0, C.v tSpot.slice b3c1, C.v tTxts b3c2, C.v tPart.slice b3c3, C.v tInt b3c4])] }
noncomputable def E_f_2l (N : Nat) : Env := envOf (tabOf tabL) (tabS (phiL_f_2l N)) inl0 N fi_f_2l [500000]
noncomputable def K_f_2l := (kFun (tabOf tabL) fi_f_2l.res (kT (ofDs [tBook, .pair (.slice tByte) tInt]) sg_f_2l [(500000, .bx (.pair (.slice tByte) tInt))]))
noncomputable def its_f_2l_0 (N : Nat) (n : Nat) : St → Option (Book × Rdr) := fun S' => iter [500000] (annAt fi_f_2l 0) (code (E_f_2l N) (lpIn fi_f_2l.body 0 0) 0) n S' (contOf (E_f_2l N) fi_f_2l.body 0 0 K_f_2l)
noncomputable def it_f_2l_0 (N : Nat) (t2c4 : Int) (n : Nat) : Int → (List Int) → Int → (List Foe) → (List Spot) → (List Txt) → (List Part) → Int → Option (Book × Rdr) := fun n4 rpc0 rpc1 b3c0 b3c1 b3c2 b3c3 b3c4 => its_f_2l_0 N n (S_f_2l_0 t2c4 n4 rpc0 rpc1 b3c0 b3c1 b3c2 b3c3 b3c4)
theorem fe_f_2l_0 (N : Nat) : it_f_2l_0 N = f_2l_0 N := funext fun t2c4 => funext (lp_all (by kernel_rfl) fun n => by
    show _ = f_2l_0r N t2c4 (it_f_2l_0 N t2c4 n)
    kernel_rfl)
theorem run_f_2l (N : Nat) (r : (List (Int)) × (Int)) : runST (ofDs [tBook, .pair (.slice tByte) tInt]) (tabOf tabL) (tabS (phiL_f_2l N)) inl0 N fi_f_2l sg_f_2l [⟨.pair (.slice tByte) tInt, r⟩] = F.f_2l N r := by
    show _ = F.f_2lb N (F.f_2l_0 N) r
    rw [← fe_f_2l_0 N]
    kernel_rfl
def sm_f_2l (N : Nat) : Summ := summOf [.bx (.pair (.slice tByte) tInt)] true [.d tBook true] [tBook, .pair (.slice tByte) tInt] (F.f_2l N)
theorem con_f_2l (N : Nat) : Contract Tryz.prog 157 (sm_f_2l N) := con_of (N := N) tabOK mixed (callOK_list (l := phiL_f_2l N) (allc rfl (con_f_2k N) (allc rfl (con_f_1g N) (allc rfl (con_f_2m N) (allc rfl (con_f_2p N) trivial))))) (inl0_ok _) ok_f_2l (by decide) fun r => run_f_2l N r
def an_f_28 : Nat → Option Ann := fun _ => none
noncomputable def fi_f_28 : FI := ⟨Tryz.f158.results.toList, bodyOf Tryz.f158.body, Tryz.f158.ntmps, an_f_28⟩
theorem ok_f_28 : FnOK Tryz.prog 158 fi_f_28 := ⟨⟨Tryz.f158, Tryz.func158, by kernel_rfl, rfl, rfl, by kernel_rfl⟩, by kernel_rfl⟩
def phiL_f_28 (N : Nat) : List (Nat × Summ) := [(52, sm_f_2f N), (53, sm_f_1g N), (128, sm_f_20 N), (132, sm_f_12 N)]
def sg_f_28 : Summ := sigOf [.bx (.pair (.slice tByte) tInt), .d tBook true] true [.d tBook true]
theorem run_f_28 (N : Nat) (r : (List (Int)) × (Int)) (b : (List ((List UInt8) × (List UInt8))) × ((List ((List UInt8) × ((Int) × ((Int) × ((Int) × (List Txt)))))) × ((List Txt) × ((List (((Int) × ((Int) × ((List Txt) × ((List ((List UInt8) × ((Int) × (Int)))) × ((List Txt) × (List Txt)))))) × (Bool))) × (Int))))) : runST (ofDs [tBook, .pair (.slice tByte) tInt]) (tabOf tabL) (tabS (phiL_f_28 N)) inl0 N fi_f_28 sg_f_28 [⟨.pair (.slice tByte) tInt, r⟩, ⟨tBook, b⟩] = F.f_28 N r b := by kernel_rfl
def sm_f_28 (N : Nat) : Summ := summOf [.bx (.pair (.slice tByte) tInt), .d tBook true] true [.d tBook true] [tBook, .pair (.slice tByte) tInt] (F.f_28 N)
theorem con_f_28 (N : Nat) : Contract Tryz.prog 158 (sm_f_28 N) := con_of (N := N) tabOK mixed (callOK_list (l := phiL_f_28 N) (allc rfl (con_f_2f N) (allc rfl (con_f_1g N) (allc rfl (con_f_20 N) (allc rfl (con_f_12 N) trivial))))) (inl0_ok _) ok_f_28 (by decide) fun r b => run_f_28 N r b
def an_f_31 : Nat → Option Ann := fun _ => none
noncomputable def fi_f_31 : FI := ⟨Tryz.f99.results.toList, bodyOf Tryz.f99.body, Tryz.f99.ntmps, an_f_31⟩
theorem ok_f_31 : FnOK Tryz.prog 99 fi_f_31 := ⟨⟨Tryz.f99, Tryz.func99, by kernel_rfl, rfl, rfl, by kernel_rfl⟩, by kernel_rfl⟩
def phiL_f_31 (N : Nat) : List (Nat × Summ) := [(157, sm_f_2l N), (53, sm_f_1g N), (158, sm_f_28 N)]
def sg_f_31 : Summ := sigOf [.bx (.pair (.slice tByte) tInt)] true [.d tBook true]
theorem run_f_31 (N : Nat) (r : (List (Int)) × (Int)) : runST (ofDs [tBook, .pair (.slice tByte) tInt]) (tabOf tabL) (tabS (phiL_f_31 N)) inl0 N fi_f_31 sg_f_31 [⟨.pair (.slice tByte) tInt, r⟩] = F.f_31 N r := by kernel_rfl
def sm_f_31 (N : Nat) : Summ := summOf [.bx (.pair (.slice tByte) tInt)] true [.d tBook true] [tBook, .pair (.slice tByte) tInt] (F.f_31 N)
theorem con_f_31 (N : Nat) : Contract Tryz.prog 99 (sm_f_31 N) := con_of (N := N) tabOK mixed (callOK_list (l := phiL_f_31 N) (allc rfl (con_f_2l N) (allc rfl (con_f_1g N) (allc rfl (con_f_28 N) trivial)))) (inl0_ok _) ok_f_31 (by decide) fun r => run_f_31 N r
def an_f_29 : Nat → Option Ann := fun _ => none
noncomputable def fi_f_29 : FI := ⟨Tryz.f100.results.toList, bodyOf Tryz.f100.body, Tryz.f100.ntmps, an_f_29⟩
theorem ok_f_29 : FnOK Tryz.prog 100 fi_f_29 := ⟨⟨Tryz.f100, Tryz.func100, by kernel_rfl, rfl, rfl, by kernel_rfl⟩, by kernel_rfl⟩
def phiL_f_29 (N : Nat) : List (Nat × Summ) := [(53, sm_f_1g N), (128, sm_f_20 N)]
def sg_f_29 : Summ := sigOf [.bx (.pair (.slice tByte) tInt), .d tBook true] true [.d (.str) false]
def smG_f_29_f_1g (g_f_1g : ((List (Int)) × (Int)) → (Int) → Option ((Int) × ((List (Int)) × (Int)))) : Summ := summOf [.bx (.pair (.slice tByte) tInt), .d tInt false] true [.d tInt false] [tInt, .pair (.slice tByte) tInt] g_f_1g
def smG_f_29_f_20 (g_f_20 : ((List (Int)) × (Int)) → (List Txt) → Option ((List UInt8) × ((List (Int)) × (Int)))) : Summ := summOf [.bx (.pair (.slice tByte) tInt), .d tTxts false] true [.d (.str) false] [.str, .pair (.slice tByte) tInt] g_f_20
def phiG_f_29 (g_f_1g : ((List (Int)) × (Int)) → (Int) → Option ((Int) × ((List (Int)) × (Int)))) (g_f_20 : ((List (Int)) × (Int)) → (List Txt) → Option ((List UInt8) × ((List (Int)) × (Int)))) : List (Nat × Summ) := [(53, smG_f_29_f_1g g_f_1g), (128, smG_f_29_f_20 g_f_20)]
theorem runG_f_29 (N : Nat) (g_f_1g : ((List (Int)) × (Int)) → (Int) → Option ((Int) × ((List (Int)) × (Int)))) (g_f_20 : ((List (Int)) × (Int)) → (List Txt) → Option ((List UInt8) × ((List (Int)) × (Int)))) (r : (List (Int)) × (Int)) (b : (List ((List UInt8) × (List UInt8))) × ((List ((List UInt8) × ((Int) × ((Int) × ((Int) × (List Txt)))))) × ((List Txt) × ((List (((Int) × ((Int) × ((List Txt) × ((List ((List UInt8) × ((Int) × (Int)))) × ((List Txt) × (List Txt)))))) × (Bool))) × (Int))))) : runST (ofDs [.str, .pair (.slice tByte) tInt]) (tabOf tabL) (tabS (phiG_f_29 g_f_1g g_f_20)) inl0 N fi_f_29 sg_f_29 [⟨.pair (.slice tByte) tInt, r⟩, ⟨tBook, b⟩] = F.f_29G g_f_1g g_f_20 r b := by kernel_rfl
theorem run_f_29 (N : Nat) (r : (List (Int)) × (Int)) (b : (List ((List UInt8) × (List UInt8))) × ((List ((List UInt8) × ((Int) × ((Int) × ((Int) × (List Txt)))))) × ((List Txt) × ((List (((Int) × ((Int) × ((List Txt) × ((List ((List UInt8) × ((Int) × (Int)))) × ((List Txt) × (List Txt)))))) × (Bool))) × (Int))))) : runST (ofDs [.str, .pair (.slice tByte) tInt]) (tabOf tabL) (tabS (phiL_f_29 N)) inl0 N fi_f_29 sg_f_29 [⟨.pair (.slice tByte) tInt, r⟩, ⟨tBook, b⟩] = F.f_29 N r b := runG_f_29 N (F.f_1g N) (F.f_20 N) r b
def sm_f_29 (N : Nat) : Summ := summOf [.bx (.pair (.slice tByte) tInt), .d tBook true] true [.d (.str) false] [.str, .pair (.slice tByte) tInt] (F.f_29 N)
theorem con_f_29 (N : Nat) : Contract Tryz.prog 100 (sm_f_29 N) := con_of (N := N) tabOK mixed (callOK_list (l := phiL_f_29 N) (allc rfl (con_f_1g N) (allc rfl (con_f_20 N) trivial))) (inl0_ok _) ok_f_29 (by decide) fun r b => run_f_29 N r b
def an_f_w : Nat → Option Ann := fun _ => none
noncomputable def fi_f_w : FI := ⟨Tryz.f29.results.toList, bodyOf Tryz.f29.body, Tryz.f29.ntmps, an_f_w⟩
theorem ok_f_w : FnOK Tryz.prog 29 fi_f_w := ⟨⟨Tryz.f29, Tryz.func29, by kernel_rfl, rfl, rfl, by kernel_rfl⟩, by kernel_rfl⟩
def phiL_f_w (N : Nat) : List (Nat × Summ) := [(99, sm_f_31 N), (100, sm_f_29 N)]
def sg_f_w : Summ := sigOf [.d (.slice tByte) false] true [.d tBook true, .d (.str) false]
theorem run_f_w (N : Nat) (code : List (Int)) : runST (ofDs [tBook, .str]) (tabOf tabL) (tabS (phiL_f_w N)) (inlB libL [(50, fi_spec_l1Open)] (tabOf tabL) (tabS (phiL_f_w N)) N) N fi_f_w sg_f_w [⟨.slice tByte, code⟩] = F.f_w N code := by kernel_rfl
def sm_f_w (N : Nat) : Summ := summOf [.d (.slice tByte) false] true [.d tBook true, .d (.str) false] [tBook, .str] (F.f_w N)
theorem con_f_w (N : Nat) : Contract Tryz.prog 29 (sm_f_w N) := con_of (N := N) tabOK mixed (callOK_list (l := phiL_f_w N) (allc rfl (con_f_31 N) (allc rfl (con_f_29 N) trivial))) (inlB_ok (L := libL) (Fs := [(50, fi_spec_l1Open)]) libs_ok (And.intro ok_spec_l1Open trivial) tabOK (callOK_list (l := phiL_f_w N) (allc rfl (con_f_31 N) (allc rfl (con_f_29 N) trivial))) mixed) ok_f_w (by decide) fun code => run_f_w N code
def an_f_39 : Nat → Option Ann := fun _ => none
noncomputable def fi_f_39 : FI := ⟨Tryz.f71.results.toList, bodyOf Tryz.f71.body, Tryz.f71.ntmps, an_f_39⟩
theorem ok_f_39 : FnOK Tryz.prog 71 fi_f_39 := ⟨⟨Tryz.f71, Tryz.func71, by kernel_rfl, rfl, rfl, by kernel_rfl⟩, by kernel_rfl⟩
def phiL_f_39 (N : Nat) : List (Nat × Summ) := []
def sg_f_39 : Summ := sigOf [.d tInt false, .d tInt false, .d tInt false] false [.d (.bool) false]
theorem run_f_39 (N : Nat) (n : Int) (low : Int) (high : Int) : runST (ofDs [.bool]) (tabOf tabL) (tabS (phiL_f_39 N)) inl0 N fi_f_39 sg_f_39 [⟨tInt, n⟩, ⟨tInt, low⟩, ⟨tInt, high⟩] = F.f_39 N n low high := by kernel_rfl
def sm_f_39 (N : Nat) : Summ := summOf [.d tInt false, .d tInt false, .d tInt false] false [.d (.bool) false] [.bool] (F.f_39 N)
theorem con_f_39 (N : Nat) : Contract Tryz.prog 71 (sm_f_39 N) := con_of (N := N) tabOK mixed (callOK_list (l := phiL_f_39 N) trivial) (inl0_ok _) ok_f_39 (by decide) fun n low high => run_f_39 N n low high
def an_f_34 : Nat → Option Ann
  | 0 => some ⟨{ fr := [(0, Dir.keep), (3, Dir.keep)], bx := [], os := [] }, [(0, { fr := [], bx := [], os := [] })], { fr := [(2, Dir.keep)], bx := [], os := [] }⟩
  | _ => none
noncomputable def fi_f_34 : FI := ⟨Tryz.f72.results.toList, bodyOf Tryz.f72.body, Tryz.f72.ntmps, an_f_34⟩
theorem ok_f_34 : FnOK Tryz.prog 72 fi_f_34 := ⟨⟨Tryz.f72, Tryz.func72, by kernel_rfl, rfl, rfl, by kernel_rfl⟩, by kernel_rfl⟩
def phiL_f_34 (N : Nat) : List (Nat × Summ) := [(71, sm_f_39 N)]
def sg_f_34 : Summ := sigOf [.d (.str) false] false [.d (.bool) false]
def S_f_34_0 (s : Txt) (i3 : Int) : St := ⟨[(0, .w (.one (.v Ty.str s))), (3, .w (.one (.v tInt i3)))], []⟩
noncomputable def E_f_34 (N : Nat) : Env := envOf (tabOf tabL) (tabS (phiL_f_34 N)) inl0 N fi_f_34 []
noncomputable def K_f_34 := (kFun (tabOf tabL) fi_f_34.res (kT (ofDs [.bool]) sg_f_34 []))
noncomputable def its_f_34_0 (N : Nat) (n : Nat) : St → Option Bool := fun S' => iter [] (annAt fi_f_34 0) (code (E_f_34 N) (lpIn fi_f_34.body 0 0) 0) n S' (contOf (E_f_34 N) fi_f_34.body 0 0 K_f_34)
noncomputable def it_f_34_0 (N : Nat) (s : Txt) (n : Nat) : Int → Option Bool := fun i3 => its_f_34_0 N n (S_f_34_0 s i3)
theorem fe_f_34_0 (N : Nat) : it_f_34_0 N = f_34_0 N := funext fun s => funext (lp_all (by kernel_rfl) fun n => by
    show _ = f_34_0r N s (it_f_34_0 N s n)
    kernel_rfl)
theorem run_f_34 (N : Nat) (s : List UInt8) : runST (ofDs [.bool]) (tabOf tabL) (tabS (phiL_f_34 N)) inl0 N fi_f_34 sg_f_34 [⟨.str, s⟩] = F.f_34 N s := by
    show _ = F.f_34b N (F.f_34_0 N) s
    rw [← fe_f_34_0 N]
    kernel_rfl
def sm_f_34 (N : Nat) : Summ := summOf [.d (.str) false] false [.d (.bool) false] [.bool] (F.f_34 N)
theorem con_f_34 (N : Nat) : Contract Tryz.prog 72 (sm_f_34 N) := con_of (N := N) tabOK mixed (callOK_list (l := phiL_f_34 N) (allc rfl (con_f_39 N) trivial)) (inl0_ok _) ok_f_34 (by decide) fun s => run_f_34 N s
def an_f_2r : Nat → Option Ann
  | 0 => some ⟨{ fr := [(0, Dir.keep), (11, Dir.keep), (12, Dir.keep), (13, Dir.keep)], bx := [], os := [] }, [(0, { fr := [], bx := [], os := [] })], { fr := [(4, Dir.keep)], bx := [], os := [] }⟩
  | _ => none
noncomputable def fi_f_2r : FI := ⟨Tryz.f70.results.toList, bodyOf Tryz.f70.body, Tryz.f70.ntmps, an_f_2r⟩
theorem ok_f_2r : FnOK Tryz.prog 70 fi_f_2r := ⟨⟨Tryz.f70, Tryz.func70, by kernel_rfl, rfl, rfl, by kernel_rfl⟩, by kernel_rfl⟩
def phiL_f_2r (N : Nat) : List (Nat × Summ) := [(72, sm_f_34 N)]
def sg_f_2r : Summ := sigOf [.d tTxts false, .d tInt false] false [.d (.bool) false]
def S_f_2r_0 (l : List Txt) (t12 : Int) (t13 : Int) : St := ⟨[(0, .w (.one (.v tTxts l))), (11, .w (.one (.v tTxts l))), (12, .w (.one (.v tInt t12))), (13, .w (.one (.v tInt t13)))], []⟩
noncomputable def E_f_2r (N : Nat) : Env := envOf (tabOf tabL) (tabS (phiL_f_2r N)) inl0 N fi_f_2r []
noncomputable def K_f_2r := (kFun (tabOf tabL) fi_f_2r.res (kT (ofDs [.bool]) sg_f_2r []))
noncomputable def its_f_2r_0 (N : Nat) (n : Nat) : St → Option Bool := fun S' => iter [] (annAt fi_f_2r 0) (code (E_f_2r N) (lpIn fi_f_2r.body 0 0) 0) n S' (contOf (E_f_2r N) fi_f_2r.body 0 0 K_f_2r)
noncomputable def it_f_2r_0 (N : Nat) (l : List Txt) (t12 : Int) (n : Nat) : Int → Option Bool := fun t13 => its_f_2r_0 N n (S_f_2r_0 l t12 t13)
theorem fe_f_2r_0 (N : Nat) : it_f_2r_0 N = f_2r_0 N := funext fun l => funext fun t12 => funext (lp_all (by kernel_rfl) fun n => by
    show _ = f_2r_0r N l t12 (it_f_2r_0 N l t12 n)
    kernel_rfl)
theorem run_f_2r (N : Nat) (l : List (List UInt8)) (most : Int) : runST (ofDs [.bool]) (tabOf tabL) (tabS (phiL_f_2r N)) inl0 N fi_f_2r sg_f_2r [⟨tTxts, l⟩, ⟨tInt, most⟩] = F.f_2r N l most := by
    show _ = F.f_2rb N (F.f_2r_0 N) l most
    rw [← fe_f_2r_0 N]
    kernel_rfl
def sm_f_2r (N : Nat) : Summ := summOf [.d tTxts false, .d tInt false] false [.d (.bool) false] [.bool] (F.f_2r N)
theorem con_f_2r (N : Nat) : Contract Tryz.prog 70 (sm_f_2r N) := con_of (N := N) tabOK mixed (callOK_list (l := phiL_f_2r N) (allc rfl (con_f_34 N) trivial)) (inl0_ok _) ok_f_2r (by decide) fun l most => run_f_2r N l most
def an_f_o : Nat → Option Ann := fun _ => none
noncomputable def fi_f_o : FI := ⟨Tryz.f73.results.toList, bodyOf Tryz.f73.body, Tryz.f73.ntmps, an_f_o⟩
theorem ok_f_o : FnOK Tryz.prog 73 fi_f_o := ⟨⟨Tryz.f73, Tryz.func73, by kernel_rfl, rfl, rfl, by kernel_rfl⟩, by kernel_rfl⟩
def phiL_f_o (N : Nat) : List (Nat × Summ) := []
def sg_f_o : Summ := sigOf [.d tFoe true, .d tFoe true] false [.d (.bool) false]
theorem run_f_o (N : Nat) (f : (List UInt8) × (List UInt8)) (g : (List UInt8) × (List UInt8)) : runST (ofDs [.bool]) (tabOf tabL) (tabS (phiL_f_o N)) inl0 N fi_f_o sg_f_o [⟨tFoe, f⟩, ⟨tFoe, g⟩] = F.f_o N f g := by kernel_rfl
def sm_f_o (N : Nat) : Summ := summOf [.d tFoe true, .d tFoe true] false [.d (.bool) false] [.bool] (F.f_o N)
theorem con_f_o (N : Nat) : Contract Tryz.prog 73 (sm_f_o N) := con_of (N := N) tabOK mixed (callOK_list (l := phiL_f_o N) trivial) (inl0_ok _) ok_f_o (by decide) fun f g => run_f_o N f g
def an_f_r : Nat → Option Ann
  | 0 => some ⟨{ fr := [(0, Dir.keep), (1, Dir.keep), (7, Dir.keep), (8, Dir.keep)], bx := [], os := [] }, [(0, { fr := [], bx := [], os := [] })], { fr := [(4, Dir.keep)], bx := [], os := [] }⟩
  | _ => none
noncomputable def fi_f_r : FI := ⟨Tryz.f159.results.toList, bodyOf Tryz.f159.body, Tryz.f159.ntmps, an_f_r⟩
theorem ok_f_r : FnOK Tryz.prog 159 fi_f_r := ⟨⟨Tryz.f159, Tryz.func159, by kernel_rfl, rfl, rfl, by kernel_rfl⟩, by kernel_rfl⟩
def phiL_f_r (N : Nat) : List (Nat × Summ) := []
def sg_f_r : Summ := sigOf [.d tTxts false, .d (.str) false] false [.d tInt false]
def S_f_r_0 (s : List Txt) (v : Txt) (t7 : Int) (t8 : Int) : St := ⟨[(0, .w (.one (.v tTxts s))), (1, .w (.one (.v Ty.str v))), (7, .w (.one (.v tInt t7))), (8, .w (.one (.v tInt t8)))], []⟩
noncomputable def E_f_r (N : Nat) : Env := envOf (tabOf tabL) (tabS (phiL_f_r N)) inl0 N fi_f_r []
noncomputable def K_f_r := (kFun (tabOf tabL) fi_f_r.res (kT (ofDs [tInt]) sg_f_r []))
noncomputable def its_f_r_0 (N : Nat) (n : Nat) : St → Option Int := fun S' => iter [] (annAt fi_f_r 0) (code (E_f_r N) (lpIn fi_f_r.body 0 0) 0) n S' (contOf (E_f_r N) fi_f_r.body 0 0 K_f_r)
noncomputable def it_f_r_0 (N : Nat) (s : List Txt) (v : Txt) (t7 : Int) (n : Nat) : Int → Option Int := fun t8 => its_f_r_0 N n (S_f_r_0 s v t7 t8)
theorem fe_f_r_0 (N : Nat) : it_f_r_0 N = f_r_0 N := funext fun s => funext fun v => funext fun t7 => funext (lp_all (by kernel_rfl) fun n => by
    show _ = f_r_0r N s v t7 (it_f_r_0 N s v t7 n)
    kernel_rfl)
theorem run_f_r (N : Nat) (s : List (List UInt8)) (v : List UInt8) : runST (ofDs [tInt]) (tabOf tabL) (tabS (phiL_f_r N)) inl0 N fi_f_r sg_f_r [⟨tTxts, s⟩, ⟨.str, v⟩] = F.f_r N s v := by
    show _ = F.f_rb N (F.f_r_0 N) s v
    rw [← fe_f_r_0 N]
    kernel_rfl
def sm_f_r (N : Nat) : Summ := summOf [.d tTxts false, .d (.str) false] false [.d tInt false] [tInt] (F.f_r N)
theorem con_f_r (N : Nat) : Contract Tryz.prog 159 (sm_f_r N) := con_of (N := N) tabOK mixed (callOK_list (l := phiL_f_r N) trivial) (inl0_ok _) ok_f_r (by decide) fun s v => run_f_r N s v
def an_f_f : Nat → Option Ann := fun _ => none
noncomputable def fi_f_f : FI := ⟨Tryz.f101.results.toList, bodyOf Tryz.f101.body, Tryz.f101.ntmps, an_f_f⟩
theorem ok_f_f : FnOK Tryz.prog 101 fi_f_f := ⟨⟨Tryz.f101, Tryz.func101, by kernel_rfl, rfl, rfl, by kernel_rfl⟩, by kernel_rfl⟩
def phiL_f_f (N : Nat) : List (Nat × Summ) := [(159, sm_f_r N)]
def sg_f_f : Summ := sigOf [.d tTxts false, .d (.str) false] false [.d (.bool) false]
theorem run_f_f (N : Nat) (s : List (List UInt8)) (v : List UInt8) : runST (ofDs [.bool]) (tabOf tabL) (tabS (phiL_f_f N)) inl0 N fi_f_f sg_f_f [⟨tTxts, s⟩, ⟨.str, v⟩] = F.f_f N s v := by kernel_rfl
def sm_f_f (N : Nat) : Summ := summOf [.d tTxts false, .d (.str) false] false [.d (.bool) false] [.bool] (F.f_f N)
theorem con_f_f (N : Nat) : Contract Tryz.prog 101 (sm_f_f N) := con_of (N := N) tabOK mixed (callOK_list (l := phiL_f_f N) (allc rfl (con_f_r N) trivial)) (inl0_ok _) ok_f_f (by decide) fun s v => run_f_f N s v
def an_f_m : Nat → Option Ann
  | 0 => some ⟨{ fr := [(1, Dir.keep), (2, Dir.keep), (10, Dir.keep), (11, Dir.keep), (12, Dir.keep)], bx := [], os := [] }, [(0, { fr := [], bx := [], os := [] })], { fr := [(6, Dir.keep)], bx := [], os := [] }⟩
  | _ => none
noncomputable def fi_f_m : FI := ⟨Tryz.f74.results.toList, bodyOf Tryz.f74.body, Tryz.f74.ntmps, an_f_m⟩
theorem ok_f_m : FnOK Tryz.prog 74 fi_f_m := ⟨⟨Tryz.f74, Tryz.func74, by kernel_rfl, rfl, rfl, by kernel_rfl⟩, by kernel_rfl⟩
def phiL_f_m (N : Nat) : List (Nat × Summ) := [(101, sm_f_f N)]
def sg_f_m : Summ := sigOf [.d tBook true, .d tTxts false, .d tTxts false] false [.d (.bool) false]
def S_f_m_0 (b : Book) (x : List Txt) (y : List Txt) (t11 : Int) (t12 : Int) : St := ⟨[(1, .w (.one (.v tTxts x))), (2, .w (.one (.v tTxts y))), (10, .w (.one (.v tFoe.slice b.1))), (11, .w (.one (.v tInt t11))), (12, .w (.one (.v tInt t12)))], []⟩
noncomputable def E_f_m (N : Nat) : Env := envOf (tabOf tabL) (tabS (phiL_f_m N)) inl0 N fi_f_m []
noncomputable def K_f_m := (kFun (tabOf tabL) fi_f_m.res (kT (ofDs [.bool]) sg_f_m []))
noncomputable def its_f_m_0 (N : Nat) (n : Nat) : St → Option Bool := fun S' => iter [] (annAt fi_f_m 0) (code (E_f_m N) (lpIn fi_f_m.body 0 0) 0) n S' (contOf (E_f_m N) fi_f_m.body 0 0 K_f_m)
noncomputable def it_f_m_0 (N : Nat) (b : Book) (x : List Txt) (y : List Txt) (t11 : Int) (n : Nat) : Int → Option Bool := fun t12 => its_f_m_0 N n (S_f_m_0 b x y t11 t12)
theorem fe_f_m_0 (N : Nat) : it_f_m_0 N = f_m_0 N := funext fun b => funext fun x => funext fun y => funext fun t11 => funext (lp_all (by kernel_rfl) fun n => by
    show _ = f_m_0r N b x y t11 (it_f_m_0 N b x y t11 n)
    kernel_rfl)
theorem run_f_m (N : Nat) (b : (List ((List UInt8) × (List UInt8))) × ((List ((List UInt8) × ((Int) × ((Int) × ((Int) × (List Txt)))))) × ((List Txt) × ((List (((Int) × ((Int) × ((List Txt) × ((List ((List UInt8) × ((Int) × (Int)))) × ((List Txt) × (List Txt)))))) × (Bool))) × (Int))))) (x : List (List UInt8)) (y : List (List UInt8)) : runST (ofDs [.bool]) (tabOf tabL) (tabS (phiL_f_m N)) inl0 N fi_f_m sg_f_m [⟨tBook, b⟩, ⟨tTxts, x⟩, ⟨tTxts, y⟩] = F.f_m N b x y := by
    show _ = F.f_mb N (F.f_m_0 N) b x y
    rw [← fe_f_m_0 N]
    kernel_rfl
def sm_f_m (N : Nat) : Summ := summOf [.d tBook true, .d tTxts false, .d tTxts false] false [.d (.bool) false] [.bool] (F.f_m N)
theorem con_f_m (N : Nat) : Contract Tryz.prog 74 (sm_f_m N) := con_of (N := N) tabOK mixed (callOK_list (l := phiL_f_m N) (allc rfl (con_f_f N) trivial)) (inl0_ok _) ok_f_m (by decide) fun b x y => run_f_m N b x y
def an_f_19 : Nat → Option Ann := fun _ => none
noncomputable def fi_f_19 : FI := ⟨Tryz.f175.results.toList, bodyOf Tryz.f175.body, Tryz.f175.ntmps, an_f_19⟩
theorem ok_f_19 : FnOK Tryz.prog 175 fi_f_19 := ⟨⟨Tryz.f175, Tryz.func175, by kernel_rfl, rfl, rfl, by kernel_rfl⟩, by kernel_rfl⟩
def phiL_f_19 (N : Nat) : List (Nat × Summ) := [(101, sm_f_f N)]
def sg_f_19 : Summ := sigOf [.d (.str) false, .bx tTxts] true [.d (.bool) false]
theorem run_f_19 (N : Nat) (s : List UInt8) (p1 : List (List UInt8)) : runST (ofDs [.bool, tTxts]) (tabOf tabL) (tabS (phiL_f_19 N)) inl0 N fi_f_19 sg_f_19 [⟨.str, s⟩, ⟨tTxts, p1⟩] = F.f_19 N s p1 := by kernel_rfl
def sm_f_19 (N : Nat) : Summ := summOf [.d (.str) false, .bx tTxts] true [.d (.bool) false] [.bool, tTxts] (F.f_19 N)
theorem con_f_19 (N : Nat) : Contract Tryz.prog 175 (sm_f_19 N) := con_of (N := N) tabOK mixed (callOK_list (l := phiL_f_19 N) (allc rfl (con_f_f N) trivial)) (inl0_ok _) ok_f_19 (by decide) fun s p1 => run_f_19 N s p1
def an_f_c : Nat → Option Ann
  | 0 => some ⟨{ fr := [(0, Dir.keep), (1, Dir.keep), (7, Dir.keep), (8, Dir.keep)], bx := [(500001, [Dir.keep])], os := [] }, [(0, { fr := [], bx := [(500001, [Dir.keep])], os := [] })], { fr := [(4, Dir.keep)], bx := [(500001, [Dir.keep])], os := [] }⟩
  | _ => none
noncomputable def fi_f_c : FI := ⟨Tryz.f179.results.toList, bodyOf Tryz.f179.body, Tryz.f179.ntmps, an_f_c⟩
theorem ok_f_c : FnOK Tryz.prog 179 fi_f_c := ⟨⟨Tryz.f179, Tryz.func179, by kernel_rfl, rfl, rfl, by kernel_rfl⟩, by kernel_rfl⟩
def phiL_f_c (N : Nat) : List (Nat × Summ) := [(175, sm_f_19 N)]
def sg_f_c : Summ := sigOf [.d tTxts false, .cl 175 [tTxts]] true [.d tInt false]
def S_f_c_0 (s : List Txt) (t7 : Int) (t8 : Int) (fpc0 : List Txt) : St := { fr := [(0, .w (.one (.v tTxts s))), (1, AV.w (V1.one (C.fn 175 [500001]))), (7, .w (.one (.v tInt t7))), (8, .w (.one (.v tInt t8)))], H := [(500001, Ob.box [C.v tTxts fpc0])] }
noncomputable def E_f_c (N : Nat) : Env := envOf (tabOf tabL) (tabS (phiL_f_c N)) inl0 N fi_f_c [500001]
noncomputable def K_f_c := (kFun (tabOf tabL) fi_f_c.res (kT (ofDs [tInt, tTxts]) sg_f_c [(500001, .bx tTxts)]))
noncomputable def its_f_c_0 (N : Nat) (n : Nat) : St → Option (Int × List Txt) := fun S' => iter [500001] (annAt fi_f_c 0) (code (E_f_c N) (lpIn fi_f_c.body 0 0) 0) n S' (contOf (E_f_c N) fi_f_c.body 0 0 K_f_c)
noncomputable def it_f_c_0 (N : Nat) (s : List Txt) (t7 : Int) (n : Nat) : Int → (List Txt) → Option (Int × List Txt) := fun t8 fpc0 => its_f_c_0 N n (S_f_c_0 s t7 t8 fpc0)
theorem fe_f_c_0 (N : Nat) : it_f_c_0 N = f_c_0 N := funext fun s => funext fun t7 => funext (lp_all (by kernel_rfl) fun n => by
    show _ = f_c_0r N s t7 (it_f_c_0 N s t7 n)
    kernel_rfl)
theorem run_f_c (N : Nat) (s : List (List UInt8)) (p1 : List (List UInt8)) : runST (ofDs [tInt, tTxts]) (tabOf tabL) (tabS (phiL_f_c N)) inl0 N fi_f_c sg_f_c [⟨tTxts, s⟩, ⟨tTxts, p1⟩] = F.f_c N s p1 := by
    show _ = F.f_cb N (F.f_c_0 N) s p1
    rw [← fe_f_c_0 N]
    kernel_rfl
def sm_f_c (N : Nat) : Summ := summOf [.d tTxts false, .cl 175 [tTxts]] true [.d tInt false] [tInt, tTxts] (F.f_c N)
theorem con_f_c (N : Nat) : Contract Tryz.prog 179 (sm_f_c N) := con_of (N := N) tabOK mixed (callOK_list (l := phiL_f_c N) (allc rfl (con_f_19 N) trivial)) (inl0_ok _) ok_f_c (by decide) fun s p1 => run_f_c N s p1
def an_f_9 : Nat → Option Ann := fun _ => none
noncomputable def fi_f_9 : FI := ⟨Tryz.f168.results.toList, bodyOf Tryz.f168.body, Tryz.f168.ntmps, an_f_9⟩
theorem ok_f_9 : FnOK Tryz.prog 168 fi_f_9 := ⟨⟨Tryz.f168, Tryz.func168, by kernel_rfl, rfl, rfl, by kernel_rfl⟩, by kernel_rfl⟩
def phiL_f_9 (N : Nat) : List (Nat × Summ) := [(17600179, sm_f_c N)]
def sg_f_9 : Summ := sigOf [.d tTxts false, .cl 175 [tTxts]] true [.d (.bool) false]
theorem run_f_9 (N : Nat) (s : List (List UInt8)) (p1 : List (List UInt8)) : runST (ofDs [.bool, tTxts]) (tabOf tabL) (tabS (phiL_f_9 N)) inl0 N fi_f_9 sg_f_9 [⟨tTxts, s⟩, ⟨tTxts, p1⟩] = F.f_9 N s p1 := by kernel_rfl
def sm_f_9 (N : Nat) : Summ := summOf [.d tTxts false, .cl 175 [tTxts]] true [.d (.bool) false] [.bool, tTxts] (F.f_9 N)
theorem con_f_9 (N : Nat) : Contract Tryz.prog 168 (sm_f_9 N) := con_of (N := N) tabOK mixed (callOK_list (l := phiL_f_9 N) (allc rfl (con_f_c N) trivial)) (inl0_ok _) ok_f_9 (by decide) fun s p1 => run_f_9 N s p1
def an_f_2a : Nat → Option Ann := fun _ => none
noncomputable def fi_f_2a : FI := ⟨Tryz.f125.results.toList, bodyOf Tryz.f125.body, Tryz.f125.ntmps, an_f_2a⟩
theorem ok_f_2a : FnOK Tryz.prog 125 fi_f_2a := ⟨⟨Tryz.f125, Tryz.func125, by kernel_rfl, rfl, rfl, by kernel_rfl⟩, by kernel_rfl⟩
def phiL_f_2a (N : Nat) : List (Nat × Summ) := [(17600168, sm_f_9 N)]
def sg_f_2a : Summ := sigOf [.d tTxts false, .d tTxts false] false [.d (.bool) false]
theorem run_f_2a (N : Nat) (a : List (List UInt8)) (b : List (List UInt8)) : runST (ofDs [.bool]) (tabOf tabL) (tabS (phiL_f_2a N)) inl0 N fi_f_2a sg_f_2a [⟨tTxts, a⟩, ⟨tTxts, b⟩] = F.f_2a N a b := by kernel_rfl
def sm_f_2a (N : Nat) : Summ := summOf [.d tTxts false, .d tTxts false] false [.d (.bool) false] [.bool] (F.f_2a N)
theorem con_f_2a (N : Nat) : Contract Tryz.prog 125 (sm_f_2a N) := con_of (N := N) tabOK mixed (callOK_list (l := phiL_f_2a N) (allc rfl (con_f_9 N) trivial)) (inl0_ok _) ok_f_2a (by decide) fun a b => run_f_2a N a b
def an_f_y : Nat → Option Ann
  | 0 => some ⟨{ fr := [(1, Dir.keep), (3, Dir.keep), (40, Dir.keep), (41, Dir.keep), (42, Dir.keep)], bx := [(1, [Dir.keep, Dir.keep, Dir.keep, Dir.keep, Dir.keep, Dir.keep])], os := [] }, [(0, { fr := [(1, Dir.keep), (3, Dir.keep)], bx := [(1, [Dir.keep, Dir.keep, Dir.keep, Dir.keep, Dir.keep, Dir.keep])], os := [] })], { fr := [(2, Dir.keep)], bx := [], os := [] }⟩
  | _ => none
noncomputable def fi_f_y : FI := ⟨Tryz.f46.results.toList, bodyOf Tryz.f46.body, Tryz.f46.ntmps, an_f_y⟩
theorem ok_f_y : FnOK Tryz.prog 46 fi_f_y := ⟨⟨Tryz.f46, Tryz.func46, by kernel_rfl, rfl, rfl, by kernel_rfl⟩, by kernel_rfl⟩
def phiL_f_y (N : Nat) : List (Nat × Summ) := [(71, sm_f_39 N), (70, sm_f_2r N), (72, sm_f_34 N), (125, sm_f_2a N)]
def sg_f_y : Summ := sigOf [.d tWant true] false [.d (.bool) false]
def S_f_y_0 (w : Want) (move3 : Bool) (t41 : Int) (t42 : Int) : St := { fr := [(1, AV.w (V1.one (C.pb 1 0))), (3, .w (.one (.v Ty.bool move3))), (40, .w (.one (.v tUse.slice w.2.2.2.1))), (41, .w (.one (.v tInt t41))), (42, .w (.one (.v tInt t42)))], H := [(1, Ob.box [C.v tInt w.1, C.v tInt w.2.1, C.v tTxts w.2.2.1, C.v tUse.slice w.2.2.2.1, C.v tTxts w.2.2.2.2.1, C.v tTxts w.2.2.2.2.2])] }
noncomputable def E_f_y (N : Nat) : Env := envOf (tabOf tabL) (tabS (phiL_f_y N)) inl0 N fi_f_y []
noncomputable def K_f_y := (kFun (tabOf tabL) fi_f_y.res (kT (ofDs [.bool]) sg_f_y []))
noncomputable def its_f_y_0 (N : Nat) (n : Nat) : St → Option Bool := fun S' => iter [] (annAt fi_f_y 0) (code (E_f_y N) (lpIn fi_f_y.body 0 0) 0) n S' (contOf (E_f_y N) fi_f_y.body 0 0 K_f_y)
noncomputable def it_f_y_0 (N : Nat) (w : Want) (move3 : Bool) (t41 : Int) (n : Nat) : Int → Option Bool := fun t42 => its_f_y_0 N n (S_f_y_0 w move3 t41 t42)
theorem fe_f_y_0 (N : Nat) : it_f_y_0 N = f_y_0 N := funext fun w => funext fun move3 => funext fun t41 => funext (lp_all (by kernel_rfl) fun n => by
    show _ = f_y_0r N w move3 t41 (it_f_y_0 N w move3 t41 n)
    kernel_rfl)
theorem run_f_y (N : Nat) (w : (Int) × ((Int) × ((List Txt) × ((List ((List UInt8) × ((Int) × (Int)))) × ((List Txt) × (List Txt)))))) : runST (ofDs [.bool]) (tabOf tabL) (tabS (phiL_f_y N)) inl0 N fi_f_y sg_f_y [⟨tWant, w⟩] = F.f_y N w := by
    show _ = F.f_yb N (F.f_y_0 N) w
    rw [← fe_f_y_0 N]
    kernel_rfl
def sm_f_y (N : Nat) : Summ := summOf [.d tWant true] false [.d (.bool) false] [.bool] (F.f_y N)
theorem con_f_y (N : Nat) : Contract Tryz.prog 46 (sm_f_y N) := con_of (N := N) tabOK mixed (callOK_list (l := phiL_f_y N) (allc rfl (con_f_39 N) (allc rfl (con_f_2r N) (allc rfl (con_f_34 N) (allc rfl (con_f_2a N) trivial))))) (inl0_ok _) ok_f_y (by decide) fun w => run_f_y N w
def an_f_k : Nat → Option Ann := fun _ => none
noncomputable def fi_f_k : FI := ⟨Tryz.f138.results.toList, bodyOf Tryz.f138.body, Tryz.f138.ntmps, an_f_k⟩
theorem ok_f_k : FnOK Tryz.prog 138 fi_f_k := ⟨⟨Tryz.f138, Tryz.func138, by kernel_rfl, rfl, rfl, by kernel_rfl⟩, by kernel_rfl⟩
def phiL_f_k (N : Nat) : List (Nat × Summ) := []
def sg_f_k : Summ := sigOf [.d tSpot true, .bx (.str)] true [.d (.bool) false]
theorem run_f_k (N : Nat) (s : (List UInt8) × ((Int) × ((Int) × ((Int) × (List Txt))))) (p1 : List UInt8) : runST (ofDs [.bool, .str]) (tabOf tabL) (tabS (phiL_f_k N)) inl0 N fi_f_k sg_f_k [⟨tSpot, s⟩, ⟨.str, p1⟩] = F.f_k N s p1 := by kernel_rfl
def sm_f_k (N : Nat) : Summ := summOf [.d tSpot true, .bx (.str)] true [.d (.bool) false] [.bool, .str] (F.f_k N)
theorem con_f_k (N : Nat) : Contract Tryz.prog 138 (sm_f_k N) := con_of (N := N) tabOK mixed (callOK_list (l := phiL_f_k N) trivial) (inl0_ok _) ok_f_k (by decide) fun s p1 => run_f_k N s p1
def an_f_3 : Nat → Option Ann
  | 0 => some ⟨{ fr := [(0, Dir.keep), (1, Dir.keep), (7, Dir.keep), (8, Dir.keep)], bx := [(500001, [Dir.keep])], os := [] }, [(0, { fr := [], bx := [(500001, [Dir.keep])], os := [] })], { fr := [(4, Dir.keep)], bx := [(500001, [Dir.keep])], os := [] }⟩
  | _ => none
noncomputable def fi_f_3 : FI := ⟨Tryz.f137.results.toList, bodyOf Tryz.f137.body, Tryz.f137.ntmps, an_f_3⟩
theorem ok_f_3 : FnOK Tryz.prog 137 fi_f_3 := ⟨⟨Tryz.f137, Tryz.func137, by kernel_rfl, rfl, rfl, by kernel_rfl⟩, by kernel_rfl⟩
def phiL_f_3 (N : Nat) : List (Nat × Summ) := [(138, sm_f_k N)]
def sg_f_3 : Summ := sigOf [.d (.slice tSpot) false, .cl 138 [.str]] true [.d tInt false]
def S_f_3_0 (s : List Spot) (t7 : Int) (t8 : Int) (fpc0 : Txt) : St := { fr := [(0, .w (.one (.v tSpot.slice s))), (1, AV.w (V1.one (C.fn 138 [500001]))), (7, .w (.one (.v tInt t7))), (8, .w (.one (.v tInt t8)))], H := [(500001, Ob.box [C.v Ty.str fpc0])] }
noncomputable def E_f_3 (N : Nat) : Env := envOf (tabOf tabL) (tabS (phiL_f_3 N)) inl0 N fi_f_3 [500001]
noncomputable def K_f_3 := (kFun (tabOf tabL) fi_f_3.res (kT (ofDs [tInt, .str]) sg_f_3 [(500001, .bx (.str))]))
noncomputable def its_f_3_0 (N : Nat) (n : Nat) : St → Option (Int × Txt) := fun S' => iter [500001] (annAt fi_f_3 0) (code (E_f_3 N) (lpIn fi_f_3.body 0 0) 0) n S' (contOf (E_f_3 N) fi_f_3.body 0 0 K_f_3)
noncomputable def it_f_3_0 (N : Nat) (s : List Spot) (t7 : Int) (n : Nat) : Int → Txt → Option (Int × Txt) := fun t8 fpc0 => its_f_3_0 N n (S_f_3_0 s t7 t8 fpc0)
theorem fe_f_3_0 (N : Nat) : it_f_3_0 N = f_3_0 N := funext fun s => funext fun t7 => funext (lp_all (by kernel_rfl) fun n => by
    show _ = f_3_0r N s t7 (it_f_3_0 N s t7 n)
    kernel_rfl)
theorem run_f_3 (N : Nat) (s : List ((List UInt8) × ((Int) × ((Int) × ((Int) × (List Txt)))))) (p1 : List UInt8) : runST (ofDs [tInt, .str]) (tabOf tabL) (tabS (phiL_f_3 N)) inl0 N fi_f_3 sg_f_3 [⟨.slice tSpot, s⟩, ⟨.str, p1⟩] = F.f_3 N s p1 := by
    show _ = F.f_3b N (F.f_3_0 N) s p1
    rw [← fe_f_3_0 N]
    kernel_rfl
def sm_f_3 (N : Nat) : Summ := summOf [.d (.slice tSpot) false, .cl 138 [.str]] true [.d tInt false] [tInt, .str] (F.f_3 N)
theorem con_f_3 (N : Nat) : Contract Tryz.prog 137 (sm_f_3 N) := con_of (N := N) tabOK mixed (callOK_list (l := phiL_f_3 N) (allc rfl (con_f_k N) trivial)) (inl0_ok _) ok_f_3 (by decide) fun s p1 => run_f_3 N s p1
def an_f_t : Nat → Option Ann := fun _ => none
noncomputable def fi_f_t : FI := ⟨Tryz.f60.results.toList, bodyOf Tryz.f60.body, Tryz.f60.ntmps, an_f_t⟩
theorem ok_f_t : FnOK Tryz.prog 60 fi_f_t := ⟨⟨Tryz.f60, Tryz.func60, by kernel_rfl, rfl, rfl, by kernel_rfl⟩, by kernel_rfl⟩
def phiL_f_t (N : Nat) : List (Nat × Summ) := [(13900137, sm_f_3 N)]
def sg_f_t : Summ := sigOf [.d tBook true, .d (.str) false] false [.d tInt false]
theorem run_f_t (N : Nat) (b : (List ((List UInt8) × (List UInt8))) × ((List ((List UInt8) × ((Int) × ((Int) × ((Int) × (List Txt)))))) × ((List Txt) × ((List (((Int) × ((Int) × ((List Txt) × ((List ((List UInt8) × ((Int) × (Int)))) × ((List Txt) × (List Txt)))))) × (Bool))) × (Int))))) (n : List UInt8) : runST (ofDs [tInt]) (tabOf tabL) (tabS (phiL_f_t N)) inl0 N fi_f_t sg_f_t [⟨tBook, b⟩, ⟨.str, n⟩] = F.f_t N b n := by kernel_rfl
def sm_f_t (N : Nat) : Summ := summOf [.d tBook true, .d (.str) false] false [.d tInt false] [tInt] (F.f_t N)
theorem con_f_t (N : Nat) : Contract Tryz.prog 60 (sm_f_t N) := con_of (N := N) tabOK mixed (callOK_list (l := phiL_f_t N) (allc rfl (con_f_3 N) trivial)) (inl0_ok _) ok_f_t (by decide) fun b n => run_f_t N b n
def an_f_1a : Nat → Option Ann := fun _ => none
noncomputable def fi_f_1a : FI := ⟨Tryz.f169.results.toList, bodyOf Tryz.f169.body, Tryz.f169.ntmps, an_f_1a⟩
theorem ok_f_1a : FnOK Tryz.prog 169 fi_f_1a := ⟨⟨Tryz.f169, Tryz.func169, by kernel_rfl, rfl, rfl, by kernel_rfl⟩, by kernel_rfl⟩
def phiL_f_1a (N : Nat) : List (Nat × Summ) := [(101, sm_f_f N)]
def sg_f_1a : Summ := sigOf [.d (.str) false, .bx tTxts] true [.d (.bool) false]
theorem run_f_1a (N : Nat) (s : List UInt8) (p1 : List (List UInt8)) : runST (ofDs [.bool, tTxts]) (tabOf tabL) (tabS (phiL_f_1a N)) inl0 N fi_f_1a sg_f_1a [⟨.str, s⟩, ⟨tTxts, p1⟩] = F.f_1a N s p1 := by kernel_rfl
def sm_f_1a (N : Nat) : Summ := summOf [.d (.str) false, .bx tTxts] true [.d (.bool) false] [.bool, tTxts] (F.f_1a N)
theorem con_f_1a (N : Nat) : Contract Tryz.prog 169 (sm_f_1a N) := con_of (N := N) tabOK mixed (callOK_list (l := phiL_f_1a N) (allc rfl (con_f_f N) trivial)) (inl0_ok _) ok_f_1a (by decide) fun s p1 => run_f_1a N s p1
def an_f_d : Nat → Option Ann
  | 0 => some ⟨{ fr := [(0, Dir.keep), (1, Dir.keep), (7, Dir.keep), (8, Dir.keep)], bx := [(500001, [Dir.keep])], os := [] }, [(0, { fr := [], bx := [(500001, [Dir.keep])], os := [] })], { fr := [(4, Dir.keep)], bx := [(500001, [Dir.keep])], os := [] }⟩
  | _ => none
noncomputable def fi_f_d : FI := ⟨Tryz.f179.results.toList, bodyOf Tryz.f179.body, Tryz.f179.ntmps, an_f_d⟩
theorem ok_f_d : FnOK Tryz.prog 179 fi_f_d := ⟨⟨Tryz.f179, Tryz.func179, by kernel_rfl, rfl, rfl, by kernel_rfl⟩, by kernel_rfl⟩
def phiL_f_d (N : Nat) : List (Nat × Summ) := [(169, sm_f_1a N)]
def sg_f_d : Summ := sigOf [.d tTxts false, .cl 169 [tTxts]] true [.d tInt false]
def S_f_d_0 (s : List Txt) (t7 : Int) (t8 : Int) (fpc0 : List Txt) : St := { fr := [(0, .w (.one (.v tTxts s))), (1, AV.w (V1.one (C.fn 169 [500001]))), (7, .w (.one (.v tInt t7))), (8, .w (.one (.v tInt t8)))], H := [(500001, Ob.box [C.v tTxts fpc0])] }
noncomputable def E_f_d (N : Nat) : Env := envOf (tabOf tabL) (tabS (phiL_f_d N)) inl0 N fi_f_d [500001]
noncomputable def K_f_d := (kFun (tabOf tabL) fi_f_d.res (kT (ofDs [tInt, tTxts]) sg_f_d [(500001, .bx tTxts)]))
noncomputable def its_f_d_0 (N : Nat) (n : Nat) : St → Option (Int × List Txt) := fun S' => iter [500001] (annAt fi_f_d 0) (code (E_f_d N) (lpIn fi_f_d.body 0 0) 0) n S' (contOf (E_f_d N) fi_f_d.body 0 0 K_f_d)
noncomputable def it_f_d_0 (N : Nat) (s : List Txt) (t7 : Int) (n : Nat) : Int → (List Txt) → Option (Int × List Txt) := fun t8 fpc0 => its_f_d_0 N n (S_f_d_0 s t7 t8 fpc0)
theorem fe_f_d_0 (N : Nat) : it_f_d_0 N = f_d_0 N := funext fun s => funext fun t7 => funext (lp_all (by kernel_rfl) fun n => by
    show _ = f_d_0r N s t7 (it_f_d_0 N s t7 n)
    kernel_rfl)
theorem run_f_d (N : Nat) (s : List (List UInt8)) (p1 : List (List UInt8)) : runST (ofDs [tInt, tTxts]) (tabOf tabL) (tabS (phiL_f_d N)) inl0 N fi_f_d sg_f_d [⟨tTxts, s⟩, ⟨tTxts, p1⟩] = F.f_d N s p1 := by
    show _ = F.f_db N (F.f_d_0 N) s p1
    rw [← fe_f_d_0 N]
    kernel_rfl
def sm_f_d (N : Nat) : Summ := summOf [.d tTxts false, .cl 169 [tTxts]] true [.d tInt false] [tInt, tTxts] (F.f_d N)
theorem con_f_d (N : Nat) : Contract Tryz.prog 179 (sm_f_d N) := con_of (N := N) tabOK mixed (callOK_list (l := phiL_f_d N) (allc rfl (con_f_1a N) trivial)) (inl0_ok _) ok_f_d (by decide) fun s p1 => run_f_d N s p1
def an_f_a : Nat → Option Ann := fun _ => none
noncomputable def fi_f_a : FI := ⟨Tryz.f168.results.toList, bodyOf Tryz.f168.body, Tryz.f168.ntmps, an_f_a⟩
theorem ok_f_a : FnOK Tryz.prog 168 fi_f_a := ⟨⟨Tryz.f168, Tryz.func168, by kernel_rfl, rfl, rfl, by kernel_rfl⟩, by kernel_rfl⟩
def phiL_f_a (N : Nat) : List (Nat × Summ) := [(17000179, sm_f_d N)]
def sg_f_a : Summ := sigOf [.d tTxts false, .cl 169 [tTxts]] true [.d (.bool) false]
theorem run_f_a (N : Nat) (s : List (List UInt8)) (p1 : List (List UInt8)) : runST (ofDs [.bool, tTxts]) (tabOf tabL) (tabS (phiL_f_a N)) inl0 N fi_f_a sg_f_a [⟨tTxts, s⟩, ⟨tTxts, p1⟩] = F.f_a N s p1 := by kernel_rfl
def sm_f_a (N : Nat) : Summ := summOf [.d tTxts false, .cl 169 [tTxts]] true [.d (.bool) false] [.bool, tTxts] (F.f_a N)
theorem con_f_a (N : Nat) : Contract Tryz.prog 168 (sm_f_a N) := con_of (N := N) tabOK mixed (callOK_list (l := phiL_f_a N) (allc rfl (con_f_d N) trivial)) (inl0_ok _) ok_f_a (by decide) fun s p1 => run_f_a N s p1
def an_f_2b : Nat → Option Ann := fun _ => none
noncomputable def fi_f_2b : FI := ⟨Tryz.f118.results.toList, bodyOf Tryz.f118.body, Tryz.f118.ntmps, an_f_2b⟩
theorem ok_f_2b : FnOK Tryz.prog 118 fi_f_2b := ⟨⟨Tryz.f118, Tryz.func118, by kernel_rfl, rfl, rfl, by kernel_rfl⟩, by kernel_rfl⟩
def phiL_f_2b (N : Nat) : List (Nat × Summ) := [(17000168, sm_f_a N)]
def sg_f_2b : Summ := sigOf [.d tTxts false, .d tTxts false] false [.d (.bool) false]
theorem run_f_2b (N : Nat) (a : List (List UInt8)) (b : List (List UInt8)) : runST (ofDs [.bool]) (tabOf tabL) (tabS (phiL_f_2b N)) inl0 N fi_f_2b sg_f_2b [⟨tTxts, a⟩, ⟨tTxts, b⟩] = F.f_2b N a b := by kernel_rfl
def sm_f_2b (N : Nat) : Summ := summOf [.d tTxts false, .d tTxts false] false [.d (.bool) false] [.bool] (F.f_2b N)
theorem con_f_2b (N : Nat) : Contract Tryz.prog 118 (sm_f_2b N) := con_of (N := N) tabOK mixed (callOK_list (l := phiL_f_2b N) (allc rfl (con_f_a N) trivial)) (inl0_ok _) ok_f_2b (by decide) fun a b => run_f_2b N a b
def an_f_l : Nat → Option Ann
  | 0 => some ⟨{ fr := [(2, Dir.keep), (3, Dir.keep), (8, Dir.keep), (9, Dir.keep), (10, Dir.keep)], bx := [(2, [Dir.keep, Dir.keep, Dir.keep, Dir.keep, Dir.keep]), (3, [Dir.keep, Dir.keep, Dir.keep, Dir.keep, Dir.keep, Dir.keep])], os := [] }, [(0, { fr := [(2, Dir.keep), (3, Dir.keep)], bx := [(2, [Dir.keep, Dir.keep, Dir.keep, Dir.keep, Dir.keep]), (3, [Dir.keep, Dir.keep, Dir.keep, Dir.keep, Dir.keep, Dir.keep])], os := [] })], { fr := [(4, Dir.keep)], bx := [], os := [] }⟩
  | _ => none
noncomputable def fi_f_l : FI := ⟨Tryz.f113.results.toList, bodyOf Tryz.f113.body, Tryz.f113.ntmps, an_f_l⟩
theorem ok_f_l : FnOK Tryz.prog 113 fi_f_l := ⟨⟨Tryz.f113, Tryz.func113, by kernel_rfl, rfl, rfl, by kernel_rfl⟩, by kernel_rfl⟩
def phiL_f_l (N : Nat) : List (Nat × Summ) := [(60, sm_f_t N), (118, sm_f_2b N)]
def sg_f_l : Summ := sigOf [.d tBook true, .d tWant true] false [.d (.bool) false]
def S_f_l_0 (b : Book) (w : Want) (t9 : Int) (t10 : Int) : St := { fr := [(2, AV.w (V1.one (C.pb 2 0))), (3, AV.w (V1.one (C.pb 3 0))), (8, .w (.one (.v tUse.slice w.2.2.2.1))), (9, .w (.one (.v tInt t9))), (10, .w (.one (.v tInt t10)))], H := [(2, Ob.box [C.v tFoe.slice b.1, C.v tSpot.slice b.2.1, C.v tTxts b.2.2.1, C.v tPart.slice b.2.2.2.1, C.v tInt b.2.2.2.2]), (3, Ob.box [C.v tInt w.1, C.v tInt w.2.1, C.v tTxts w.2.2.1, C.v tUse.slice w.2.2.2.1, C.v tTxts w.2.2.2.2.1, C.v tTxts w.2.2.2.2.2])] }
noncomputable def E_f_l (N : Nat) : Env := envOf (tabOf tabL) (tabS (phiL_f_l N)) inl0 N fi_f_l []
noncomputable def K_f_l := (kFun (tabOf tabL) fi_f_l.res (kT (ofDs [.bool]) sg_f_l []))
noncomputable def its_f_l_0 (N : Nat) (n : Nat) : St → Option Bool := fun S' => iter [] (annAt fi_f_l 0) (code (E_f_l N) (lpIn fi_f_l.body 0 0) 0) n S' (contOf (E_f_l N) fi_f_l.body 0 0 K_f_l)
noncomputable def it_f_l_0 (N : Nat) (b : Book) (w : Want) (t9 : Int) (n : Nat) : Int → Option Bool := fun t10 => its_f_l_0 N n (S_f_l_0 b w t9 t10)
theorem fe_f_l_0 (N : Nat) : it_f_l_0 N = f_l_0 N := funext fun b => funext fun w => funext fun t9 => funext (lp_all (by kernel_rfl) fun n => by
    show _ = f_l_0r N b w t9 (it_f_l_0 N b w t9 n)
    kernel_rfl)
theorem run_f_l (N : Nat) (b : (List ((List UInt8) × (List UInt8))) × ((List ((List UInt8) × ((Int) × ((Int) × ((Int) × (List Txt)))))) × ((List Txt) × ((List (((Int) × ((Int) × ((List Txt) × ((List ((List UInt8) × ((Int) × (Int)))) × ((List Txt) × (List Txt)))))) × (Bool))) × (Int))))) (w : (Int) × ((Int) × ((List Txt) × ((List ((List UInt8) × ((Int) × (Int)))) × ((List Txt) × (List Txt)))))) : runST (ofDs [.bool]) (tabOf tabL) (tabS (phiL_f_l N)) inl0 N fi_f_l sg_f_l [⟨tBook, b⟩, ⟨tWant, w⟩] = F.f_l N b w := by
    show _ = F.f_lb N (F.f_l_0 N) b w
    rw [← fe_f_l_0 N]
    kernel_rfl
def sm_f_l (N : Nat) : Summ := summOf [.d tBook true, .d tWant true] false [.d (.bool) false] [.bool] (F.f_l N)
theorem con_f_l (N : Nat) : Contract Tryz.prog 113 (sm_f_l N) := con_of (N := N) tabOK mixed (callOK_list (l := phiL_f_l N) (allc rfl (con_f_t N) (allc rfl (con_f_2b N) trivial))) (inl0_ok _) ok_f_l (by decide) fun b w => run_f_l N b w
def an_f_g : Nat → Option Ann
  | 0 => some ⟨{ fr := [(2, Dir.keep), (5, Dir.keep), (28, Dir.keep), (29, Dir.keep), (30, Dir.keep)], bx := [(2, [Dir.keep, Dir.keep, Dir.keep, Dir.keep, Dir.keep]), (5, [Dir.keep, Dir.keep, Dir.keep, Dir.keep, Dir.keep, Dir.keep])], os := [] }, [(0, { fr := [], bx := [], os := [] })], { fr := [(4, Dir.keep)], bx := [], os := [] }⟩
  | _ => none
noncomputable def fi_f_g : FI := ⟨Tryz.f75.results.toList, bodyOf Tryz.f75.body, Tryz.f75.ntmps, an_f_g⟩
theorem ok_f_g : FnOK Tryz.prog 75 fi_f_g := ⟨⟨Tryz.f75, Tryz.func75, by kernel_rfl, rfl, rfl, by kernel_rfl⟩, by kernel_rfl⟩
def phiL_f_g (N : Nat) : List (Nat × Summ) := [(46, sm_f_y N), (113, sm_f_l N), (60, sm_f_t N), (118, sm_f_2b N)]
def sg_f_g : Summ := sigOf [.d tBook true, .d tPart true] false [.d (.bool) false]
def S_f_g_0 (b : Book) (p : Part) (t29 : Int) (t30 : Int) : St := { fr := [(2, AV.w (V1.one (C.pb 2 0))), (5, AV.w (V1.one (C.pb 5 0))), (28, .w (.one (.v tUse.slice p.1.2.2.2.1))), (29, .w (.one (.v tInt t29))), (30, .w (.one (.v tInt t30)))], H := [(2, Ob.box [C.v tFoe.slice b.1, C.v tSpot.slice b.2.1, C.v tTxts b.2.2.1, C.v tPart.slice b.2.2.2.1, C.v tInt b.2.2.2.2]), (5, Ob.box [C.v tInt p.1.1, C.v tInt p.1.2.1, C.v tTxts p.1.2.2.1, C.v tUse.slice p.1.2.2.2.1, C.v tTxts p.1.2.2.2.2.1, C.v tTxts p.1.2.2.2.2.2])] }
noncomputable def E_f_g (N : Nat) : Env := envOf (tabOf tabL) (tabS (phiL_f_g N)) inl0 N fi_f_g []
noncomputable def K_f_g := (kFun (tabOf tabL) fi_f_g.res (kT (ofDs [.bool]) sg_f_g []))
noncomputable def its_f_g_0 (N : Nat) (n : Nat) : St → Option Bool := fun S' => iter [] (annAt fi_f_g 0) (code (E_f_g N) (lpIn fi_f_g.body 0 0) 0) n S' (contOf (E_f_g N) fi_f_g.body 0 0 K_f_g)
noncomputable def it_f_g_0 (N : Nat) (b : Book) (p : Part) (t29 : Int) (n : Nat) : Int → Option Bool := fun t30 => its_f_g_0 N n (S_f_g_0 b p t29 t30)
theorem fe_f_g_0 (N : Nat) : it_f_g_0 N = f_g_0 N := funext fun b => funext fun p => funext fun t29 => funext (lp_all (by kernel_rfl) fun n => by
    show _ = f_g_0r N b p t29 (it_f_g_0 N b p t29 n)
    kernel_rfl)
theorem run_f_g (N : Nat) (b : (List ((List UInt8) × (List UInt8))) × ((List ((List UInt8) × ((Int) × ((Int) × ((Int) × (List Txt)))))) × ((List Txt) × ((List (((Int) × ((Int) × ((List Txt) × ((List ((List UInt8) × ((Int) × (Int)))) × ((List Txt) × (List Txt)))))) × (Bool))) × (Int))))) (p : ((Int) × ((Int) × ((List Txt) × ((List ((List UInt8) × ((Int) × (Int)))) × ((List Txt) × (List Txt)))))) × (Bool)) : runST (ofDs [.bool]) (tabOf tabL) (tabS (phiL_f_g N)) inl0 N fi_f_g sg_f_g [⟨tBook, b⟩, ⟨tPart, p⟩] = F.f_g N b p := by
    show _ = F.f_gb N (F.f_g_0 N) b p
    rw [← fe_f_g_0 N]
    kernel_rfl
def sm_f_g (N : Nat) : Summ := summOf [.d tBook true, .d tPart true] false [.d (.bool) false] [.bool] (F.f_g N)
theorem con_f_g (N : Nat) : Contract Tryz.prog 75 (sm_f_g N) := con_of (N := N) tabOK mixed (callOK_list (l := phiL_f_g N) (allc rfl (con_f_y N) (allc rfl (con_f_l N) (allc rfl (con_f_t N) (allc rfl (con_f_2b N) trivial))))) (inl0_ok _) ok_f_g (by decide) fun b p => run_f_g N b p
def an_f_z : Nat → Option Ann := fun _ => none
noncomputable def fi_f_z : FI := ⟨Tryz.f145.results.toList, bodyOf Tryz.f145.body, Tryz.f145.ntmps, an_f_z⟩
theorem ok_f_z : FnOK Tryz.prog 145 fi_f_z := ⟨⟨Tryz.f145, Tryz.func145, by kernel_rfl, rfl, rfl, by kernel_rfl⟩, by kernel_rfl⟩
def phiL_f_z (N : Nat) : List (Nat × Summ) := []
def sg_f_z : Summ := sigOf [.d tUse true, .bx tUse] true [.d (.bool) false]
theorem run_f_z (N : Nat) (v : (List UInt8) × ((Int) × (Int))) (p1 : (List UInt8) × ((Int) × (Int))) : runST (ofDs [.bool, tUse]) (tabOf tabL) (tabS (phiL_f_z N)) inl0 N fi_f_z sg_f_z [⟨tUse, v⟩, ⟨tUse, p1⟩] = F.f_z N v p1 := by kernel_rfl
def sm_f_z (N : Nat) : Summ := summOf [.d tUse true, .bx tUse] true [.d (.bool) false] [.bool, tUse] (F.f_z N)
theorem con_f_z (N : Nat) : Contract Tryz.prog 145 (sm_f_z N) := con_of (N := N) tabOK mixed (callOK_list (l := phiL_f_z N) trivial) (inl0_ok _) ok_f_z (by decide) fun v p1 => run_f_z N v p1
def an_f_8 : Nat → Option Ann
  | 0 => some ⟨{ fr := [(0, Dir.keep), (1, Dir.keep), (7, Dir.keep), (8, Dir.keep)], bx := [(500001, [Dir.keep, Dir.keep, Dir.keep])], os := [] }, [(0, { fr := [], bx := [(500001, [Dir.keep, Dir.keep, Dir.keep])], os := [] })], { fr := [(4, Dir.keep)], bx := [(500001, [Dir.keep, Dir.keep, Dir.keep])], os := [] }⟩
  | _ => none
noncomputable def fi_f_8 : FI := ⟨Tryz.f178.results.toList, bodyOf Tryz.f178.body, Tryz.f178.ntmps, an_f_8⟩
theorem ok_f_8 : FnOK Tryz.prog 178 fi_f_8 := ⟨⟨Tryz.f178, Tryz.func178, by kernel_rfl, rfl, rfl, by kernel_rfl⟩, by kernel_rfl⟩
def phiL_f_8 (N : Nat) : List (Nat × Summ) := [(145, sm_f_z N)]
def sg_f_8 : Summ := sigOf [.d (.slice tUse) false, .cl 145 [tUse]] true [.d tInt false]
def S_f_8_0 (s : List Use) (t7 : Int) (t8 : Int) (fpc0 : Txt) (fpc1 : Int) (fpc2 : Int) : St := { fr := [(0, .w (.one (.v tUse.slice s))), (1, AV.w (V1.one (C.fn 145 [500001]))), (7, .w (.one (.v tInt t7))), (8, .w (.one (.v tInt t8)))], H := [(500001, Ob.box [C.v Ty.str fpc0, C.v tInt fpc1, C.v tInt fpc2])] }
noncomputable def E_f_8 (N : Nat) : Env := envOf (tabOf tabL) (tabS (phiL_f_8 N)) inl0 N fi_f_8 [500001]
noncomputable def K_f_8 := (kFun (tabOf tabL) fi_f_8.res (kT (ofDs [tInt, tUse]) sg_f_8 [(500001, .bx tUse)]))
noncomputable def its_f_8_0 (N : Nat) (n : Nat) : St → Option (Int × Use) := fun S' => iter [500001] (annAt fi_f_8 0) (code (E_f_8 N) (lpIn fi_f_8.body 0 0) 0) n S' (contOf (E_f_8 N) fi_f_8.body 0 0 K_f_8)
noncomputable def it_f_8_0 (N : Nat) (s : List Use) (t7 : Int) (n : Nat) : Int → Txt → Int → Int → Option (Int × Use) := fun t8 fpc0 fpc1 fpc2 => its_f_8_0 N n (S_f_8_0 s t7 t8 fpc0 fpc1 fpc2)
theorem fe_f_8_0 (N : Nat) : it_f_8_0 N = f_8_0 N := funext fun s => funext fun t7 => funext (lp_all (by kernel_rfl) fun n => by
    show _ = f_8_0r N s t7 (it_f_8_0 N s t7 n)
    kernel_rfl)
theorem run_f_8 (N : Nat) (s : List ((List UInt8) × ((Int) × (Int)))) (p1 : (List UInt8) × ((Int) × (Int))) : runST (ofDs [tInt, tUse]) (tabOf tabL) (tabS (phiL_f_8 N)) inl0 N fi_f_8 sg_f_8 [⟨.slice tUse, s⟩, ⟨tUse, p1⟩] = F.f_8 N s p1 := by
    show _ = F.f_8b N (F.f_8_0 N) s p1
    rw [← fe_f_8_0 N]
    kernel_rfl
def sm_f_8 (N : Nat) : Summ := summOf [.d (.slice tUse) false, .cl 145 [tUse]] true [.d tInt false] [tInt, tUse] (F.f_8 N)
theorem con_f_8 (N : Nat) : Contract Tryz.prog 178 (sm_f_8 N) := con_of (N := N) tabOK mixed (callOK_list (l := phiL_f_8 N) (allc rfl (con_f_z N) trivial)) (inl0_ok _) ok_f_8 (by decide) fun s p1 => run_f_8 N s p1
def an_f_4 : Nat → Option Ann := fun _ => none
noncomputable def fi_f_4 : FI := ⟨Tryz.f143.results.toList, bodyOf Tryz.f143.body, Tryz.f143.ntmps, an_f_4⟩
theorem ok_f_4 : FnOK Tryz.prog 143 fi_f_4 := ⟨⟨Tryz.f143, Tryz.func143, by kernel_rfl, rfl, rfl, by kernel_rfl⟩, by kernel_rfl⟩
def phiL_f_4 (N : Nat) : List (Nat × Summ) := [(14600178, sm_f_8 N)]
def sg_f_4 : Summ := sigOf [.d (.slice tUse) false, .cl 145 [tUse]] true [.d (.bool) false]
theorem run_f_4 (N : Nat) (s : List ((List UInt8) × ((Int) × (Int)))) (p1 : (List UInt8) × ((Int) × (Int))) : runST (ofDs [.bool, tUse]) (tabOf tabL) (tabS (phiL_f_4 N)) inl0 N fi_f_4 sg_f_4 [⟨.slice tUse, s⟩, ⟨tUse, p1⟩] = F.f_4 N s p1 := by kernel_rfl
def sm_f_4 (N : Nat) : Summ := summOf [.d (.slice tUse) false, .cl 145 [tUse]] true [.d (.bool) false] [.bool, tUse] (F.f_4 N)
theorem con_f_4 (N : Nat) : Contract Tryz.prog 143 (sm_f_4 N) := con_of (N := N) tabOK mixed (callOK_list (l := phiL_f_4 N) (allc rfl (con_f_8 N) trivial)) (inl0_ok _) ok_f_4 (by decide) fun s p1 => run_f_4 N s p1
def an_f_1o : Nat → Option Ann := fun _ => none
noncomputable def fi_f_1o : FI := ⟨Tryz.f144.results.toList, bodyOf Tryz.f144.body, Tryz.f144.ntmps, an_f_1o⟩
theorem ok_f_1o : FnOK Tryz.prog 144 fi_f_1o := ⟨⟨Tryz.f144, Tryz.func144, by kernel_rfl, rfl, rfl, by kernel_rfl⟩, by kernel_rfl⟩
def phiL_f_1o (N : Nat) : List (Nat × Summ) := [(14600143, sm_f_4 N)]
def sg_f_1o : Summ := sigOf [.d tUse true, .bx tWant] true [.d (.bool) false]
theorem run_f_1o (N : Nat) (u : (List UInt8) × ((Int) × (Int))) (p1 : (Int) × ((Int) × ((List Txt) × ((List ((List UInt8) × ((Int) × (Int)))) × ((List Txt) × (List Txt)))))) : runST (ofDs [.bool, tWant]) (tabOf tabL) (tabS (phiL_f_1o N)) inl0 N fi_f_1o sg_f_1o [⟨tUse, u⟩, ⟨tWant, p1⟩] = F.f_1o N u p1 := by kernel_rfl
def sm_f_1o (N : Nat) : Summ := summOf [.d tUse true, .bx tWant] true [.d (.bool) false] [.bool, tWant] (F.f_1o N)
theorem con_f_1o (N : Nat) : Contract Tryz.prog 144 (sm_f_1o N) := con_of (N := N) tabOK mixed (callOK_list (l := phiL_f_1o N) (allc rfl (con_f_4 N) trivial)) (inl0_ok _) ok_f_1o (by decide) fun u p1 => run_f_1o N u p1
def an_f_b : Nat → Option Ann
  | 0 => some ⟨{ fr := [(0, Dir.keep), (1, Dir.keep), (7, Dir.keep), (8, Dir.keep)], bx := [(500001, [Dir.keep, Dir.keep, Dir.keep, Dir.keep, Dir.keep, Dir.keep])], os := [] }, [(0, { fr := [], bx := [(500001, [Dir.keep, Dir.keep, Dir.keep, Dir.keep, Dir.keep, Dir.keep])], os := [] })], { fr := [(4, Dir.keep)], bx := [(500001, [Dir.keep, Dir.keep, Dir.keep, Dir.keep, Dir.keep, Dir.keep])], os := [] }⟩
  | _ => none
noncomputable def fi_f_b : FI := ⟨Tryz.f178.results.toList, bodyOf Tryz.f178.body, Tryz.f178.ntmps, an_f_b⟩
theorem ok_f_b : FnOK Tryz.prog 178 fi_f_b := ⟨⟨Tryz.f178, Tryz.func178, by kernel_rfl, rfl, rfl, by kernel_rfl⟩, by kernel_rfl⟩
def phiL_f_b (N : Nat) : List (Nat × Summ) := [(144, sm_f_1o N)]
def sg_f_b : Summ := sigOf [.d (.slice tUse) false, .cl 144 [tWant]] true [.d tInt false]
def S_f_b_0 (s : List Use) (t7 : Int) (t8 : Int) (fpc0 : Int) (fpc1 : Int) (fpc2 : List Txt) (fpc3 : List Use) (fpc4 : List Txt) (fpc5 : List Txt) : St := { fr := [(0, .w (.one (.v tUse.slice s))), (1, AV.w (V1.one (C.fn 144 [500001]))), (7, .w (.one (.v tInt t7))), (8, .w (.one (.v tInt t8)))], H := [(500001, Ob.box [C.v tInt fpc0, C.v tInt fpc1, C.v tTxts fpc2, C.v tUse.slice fpc3, C.v tTxts fpc4, C.v tTxts fpc5])] }
noncomputable def E_f_b (N : Nat) : Env := envOf (tabOf tabL) (tabS (phiL_f_b N)) inl0 N fi_f_b [500001]
noncomputable def K_f_b := (kFun (tabOf tabL) fi_f_b.res (kT (ofDs [tInt, tWant]) sg_f_b [(500001, .bx tWant)]))
noncomputable def its_f_b_0 (N : Nat) (n : Nat) : St → Option (Int × Want) := fun S' => iter [500001] (annAt fi_f_b 0) (code (E_f_b N) (lpIn fi_f_b.body 0 0) 0) n S' (contOf (E_f_b N) fi_f_b.body 0 0 K_f_b)
noncomputable def it_f_b_0 (N : Nat) (s : List Use) (t7 : Int) (n : Nat) : Int → Int → Int → (List Txt) → (List Use) → (List Txt) → (List Txt) → Option (Int × Want) := fun t8 fpc0 fpc1 fpc2 fpc3 fpc4 fpc5 => its_f_b_0 N n (S_f_b_0 s t7 t8 fpc0 fpc1 fpc2 fpc3 fpc4 fpc5)
theorem fe_f_b_0 (N : Nat) : it_f_b_0 N = f_b_0 N := funext fun s => funext fun t7 => funext (lp_all (by kernel_rfl) fun n => by
    show _ = f_b_0r N s t7 (it_f_b_0 N s t7 n)
    kernel_rfl)
theorem run_f_b (N : Nat) (s : List ((List UInt8) × ((Int) × (Int)))) (p1 : (Int) × ((Int) × ((List Txt) × ((List ((List UInt8) × ((Int) × (Int)))) × ((List Txt) × (List Txt)))))) : runST (ofDs [tInt, tWant]) (tabOf tabL) (tabS (phiL_f_b N)) inl0 N fi_f_b sg_f_b [⟨.slice tUse, s⟩, ⟨tWant, p1⟩] = F.f_b N s p1 := by
    show _ = F.f_bb N (F.f_b_0 N) s p1
    rw [← fe_f_b_0 N]
    kernel_rfl
def sm_f_b (N : Nat) : Summ := summOf [.d (.slice tUse) false, .cl 144 [tWant]] true [.d tInt false] [tInt, tWant] (F.f_b N)
theorem con_f_b (N : Nat) : Contract Tryz.prog 178 (sm_f_b N) := con_of (N := N) tabOK mixed (callOK_list (l := phiL_f_b N) (allc rfl (con_f_1o N) trivial)) (inl0_ok _) ok_f_b (by decide) fun s p1 => run_f_b N s p1
def an_f_7 : Nat → Option Ann := fun _ => none
noncomputable def fi_f_7 : FI := ⟨Tryz.f143.results.toList, bodyOf Tryz.f143.body, Tryz.f143.ntmps, an_f_7⟩
theorem ok_f_7 : FnOK Tryz.prog 143 fi_f_7 := ⟨⟨Tryz.f143, Tryz.func143, by kernel_rfl, rfl, rfl, by kernel_rfl⟩, by kernel_rfl⟩
def phiL_f_7 (N : Nat) : List (Nat × Summ) := [(14500178, sm_f_b N)]
def sg_f_7 : Summ := sigOf [.d (.slice tUse) false, .cl 144 [tWant]] true [.d (.bool) false]
theorem run_f_7 (N : Nat) (s : List ((List UInt8) × ((Int) × (Int)))) (p1 : (Int) × ((Int) × ((List Txt) × ((List ((List UInt8) × ((Int) × (Int)))) × ((List Txt) × (List Txt)))))) : runST (ofDs [.bool, tWant]) (tabOf tabL) (tabS (phiL_f_7 N)) inl0 N fi_f_7 sg_f_7 [⟨.slice tUse, s⟩, ⟨tWant, p1⟩] = F.f_7 N s p1 := by kernel_rfl
def sm_f_7 (N : Nat) : Summ := summOf [.d (.slice tUse) false, .cl 144 [tWant]] true [.d (.bool) false] [.bool, tWant] (F.f_7 N)
theorem con_f_7 (N : Nat) : Contract Tryz.prog 143 (sm_f_7 N) := con_of (N := N) tabOK mixed (callOK_list (l := phiL_f_7 N) (allc rfl (con_f_b N) trivial)) (inl0_ok _) ok_f_7 (by decide) fun s p1 => run_f_7 N s p1
def an_f_2s : Nat → Option Ann := fun _ => none
noncomputable def fi_f_2s : FI := ⟨Tryz.f76.results.toList, bodyOf Tryz.f76.body, Tryz.f76.ntmps, an_f_2s⟩
theorem ok_f_2s : FnOK Tryz.prog 76 fi_f_2s := ⟨⟨Tryz.f76, Tryz.func76, by kernel_rfl, rfl, rfl, by kernel_rfl⟩, by kernel_rfl⟩
def phiL_f_2s (N : Nat) : List (Nat × Summ) := [(14500143, sm_f_7 N)]
def sg_f_2s : Summ := sigOf [.d tWant true, .d tWant true] false [.d (.bool) false]
theorem run_f_2s (N : Nat) (a : (Int) × ((Int) × ((List Txt) × ((List ((List UInt8) × ((Int) × (Int)))) × ((List Txt) × (List Txt)))))) (b : (Int) × ((Int) × ((List Txt) × ((List ((List UInt8) × ((Int) × (Int)))) × ((List Txt) × (List Txt)))))) : runST (ofDs [.bool]) (tabOf tabL) (tabS (phiL_f_2s N)) inl0 N fi_f_2s sg_f_2s [⟨tWant, a⟩, ⟨tWant, b⟩] = F.f_2s N a b := by kernel_rfl
def sm_f_2s (N : Nat) : Summ := summOf [.d tWant true, .d tWant true] false [.d (.bool) false] [.bool] (F.f_2s N)
theorem con_f_2s (N : Nat) : Contract Tryz.prog 76 (sm_f_2s N) := con_of (N := N) tabOK mixed (callOK_list (l := phiL_f_2s N) (allc rfl (con_f_7 N) trivial)) (inl0_ok _) ok_f_2s (by decide) fun a b => run_f_2s N a b
def an_f_2q : Nat → Option Ann := fun _ => none
noncomputable def fi_f_2q : FI := ⟨Tryz.f77.results.toList, bodyOf Tryz.f77.body, Tryz.f77.ntmps, an_f_2q⟩
theorem ok_f_2q : FnOK Tryz.prog 77 fi_f_2q := ⟨⟨Tryz.f77, Tryz.func77, by kernel_rfl, rfl, rfl, by kernel_rfl⟩, by kernel_rfl⟩
def phiL_f_2q (N : Nat) : List (Nat × Summ) := [(125, sm_f_2a N)]
def sg_f_2q : Summ := sigOf [.d tWant true, .d tWant true] false [.d (.bool) false]
theorem run_f_2q (N : Nat) (a : (Int) × ((Int) × ((List Txt) × ((List ((List UInt8) × ((Int) × (Int)))) × ((List Txt) × (List Txt)))))) (b : (Int) × ((Int) × ((List Txt) × ((List ((List UInt8) × ((Int) × (Int)))) × ((List Txt) × (List Txt)))))) : runST (ofDs [.bool]) (tabOf tabL) (tabS (phiL_f_2q N)) inl0 N fi_f_2q sg_f_2q [⟨tWant, a⟩, ⟨tWant, b⟩] = F.f_2q N a b := by kernel_rfl
def sm_f_2q (N : Nat) : Summ := summOf [.d tWant true, .d tWant true] false [.d (.bool) false] [.bool] (F.f_2q N)
theorem con_f_2q (N : Nat) : Contract Tryz.prog 77 (sm_f_2q N) := con_of (N := N) tabOK mixed (callOK_list (l := phiL_f_2q N) (allc rfl (con_f_2a N) trivial)) (inl0_ok _) ok_f_2q (by decide) fun a b => run_f_2q N a b
def an_f_x : Nat → Option Ann
  | 0 => some ⟨{ fr := [(1, Dir.keep), (40, Dir.keep), (41, Dir.keep), (42, Dir.keep)], bx := [(1, [Dir.keep, Dir.keep, Dir.keep, Dir.keep, Dir.keep])], os := [] }, [(0, { fr := [(1, Dir.keep)], bx := [(1, [Dir.keep, Dir.keep, Dir.keep, Dir.keep, Dir.keep])], os := [] })], { fr := [(2, Dir.keep)], bx := [], os := [] }⟩
  | 2 => some ⟨{ fr := [(1, Dir.keep), (81, Dir.keep), (82, Dir.keep), (83, Dir.keep)], bx := [(1, [Dir.keep, Dir.keep, Dir.keep, Dir.keep, Dir.keep])], os := [] }, [(2, { fr := [(1, Dir.keep)], bx := [(1, [Dir.keep, Dir.keep, Dir.keep, Dir.keep, Dir.keep])], os := [] })], { fr := [(2, Dir.keep)], bx := [], os := [] }⟩
  | 4 => some ⟨{ fr := [(1, Dir.keep), (149, Dir.keep), (150, Dir.keep), (151, Dir.keep)], bx := [(1, [Dir.keep, Dir.keep, Dir.keep, Dir.keep, Dir.keep])], os := [] }, [(4, { fr := [], bx := [], os := [] })], { fr := [(2, Dir.keep)], bx := [], os := [] }⟩
  | 6 => some ⟨{ fr := [(1, Dir.keep), (8, Dir.keep), (149, Dir.keep), (150, Dir.keep), (151, Dir.keep), (181, Dir.keep), (182, Dir.keep), (183, Dir.keep)], bx := [(1, [Dir.keep, Dir.keep, Dir.keep, Dir.keep, Dir.keep]), (8, [Dir.keep, Dir.keep, Dir.keep, Dir.keep, Dir.keep, Dir.keep, Dir.keep])], os := [] }, [(6, { fr := [(1, Dir.keep), (149, Dir.keep), (150, Dir.keep), (151, Dir.keep)], bx := [(1, [Dir.keep, Dir.keep, Dir.keep, Dir.keep, Dir.keep])], os := [] })], { fr := [(2, Dir.keep)], bx := [], os := [] }⟩
  | _ => none
noncomputable def fi_f_x : FI := ⟨Tryz.f22.results.toList, bodyOf Tryz.f22.body, Tryz.f22.ntmps, an_f_x⟩
theorem ok_f_x : FnOK Tryz.prog 22 fi_f_x := ⟨⟨Tryz.f22, Tryz.func22, by kernel_rfl, rfl, rfl, by kernel_rfl⟩, by kernel_rfl⟩
def phiL_f_x (N : Nat) : List (Nat × Summ) := [(70, sm_f_2r N), (71, sm_f_39 N), (72, sm_f_34 N), (73, sm_f_o N), (74, sm_f_m N), (75, sm_f_g N), (76, sm_f_2s N), (77, sm_f_2q N)]
def sg_f_x : Summ := sigOf [.d tBook true] false [.d (.bool) false]
def S_f_x_6 (b : Book) (t150 : Int) (t151 : Int) (t181 : List Part) (t182 : Int) (p8c0 : Int) (p8c1 : Int) (p8c2 : List Txt) (p8c3 : List Use) (p8c4 : List Txt) (p8c5 : List Txt) (p8c6 : Bool) (t183 : Int) : St := { fr := [(1, AV.w (V1.one (C.pb 1 0))), (8, AV.w (V1.one (C.pb 8 0))), (149, .w (.one (.v tPart.slice b.2.2.2.1))), (150, .w (.one (.v tInt t150))), (151, .w (.one (.v tInt t151))), (181, .w (.one (.v tPart.slice t181))), (182, .w (.one (.v tInt t182))), (183, .w (.one (.v tInt t183)))], H := [(1, Ob.box [C.v tFoe.slice b.1, C.v tSpot.slice b.2.1, C.v tTxts b.2.2.1, C.v tPart.slice b.2.2.2.1, C.v tInt b.2.2.2.2]), (8, Ob.box [C.v tInt p8c0, C.v tInt p8c1, C.v tTxts p8c2, C.v tUse.slice p8c3, C.v tTxts p8c4, C.v tTxts p8c5, C.v Ty.bool p8c6])] }
def S_f_x_4 (b : Book) (t150 : Int) (t151 : Int) : St := { fr := [(1, AV.w (V1.one (C.pb 1 0))), (149, .w (.one (.v tPart.slice b.2.2.2.1))), (150, .w (.one (.v tInt t150))), (151, .w (.one (.v tInt t151)))], H := [(1, Ob.box [C.v tFoe.slice b.1, C.v tSpot.slice b.2.1, C.v tTxts b.2.2.1, C.v tPart.slice b.2.2.2.1, C.v tInt b.2.2.2.2])] }
def S_f_x_2 (b : Book) (t82 : Int) (t83 : Int) : St := { fr := [(1, AV.w (V1.one (C.pb 1 0))), (81, .w (.one (.v tSpot.slice b.2.1))), (82, .w (.one (.v tInt t82))), (83, .w (.one (.v tInt t83)))], H := [(1, Ob.box [C.v tFoe.slice b.1, C.v tSpot.slice b.2.1, C.v tTxts b.2.2.1, C.v tPart.slice b.2.2.2.1, C.v tInt b.2.2.2.2])] }
def S_f_x_0 (b : Book) (t41 : Int) (t42 : Int) : St := { fr := [(1, AV.w (V1.one (C.pb 1 0))), (40, .w (.one (.v tFoe.slice b.1))), (41, .w (.one (.v tInt t41))), (42, .w (.one (.v tInt t42)))], H := [(1, Ob.box [C.v tFoe.slice b.1, C.v tSpot.slice b.2.1, C.v tTxts b.2.2.1, C.v tPart.slice b.2.2.2.1, C.v tInt b.2.2.2.2])] }
noncomputable def E_f_x (N : Nat) : Env := envOf (tabOf tabL) (tabS (phiL_f_x N)) inl0 N fi_f_x []
noncomputable def K_f_x := (kFun (tabOf tabL) fi_f_x.res (kT (ofDs [.bool]) sg_f_x []))
noncomputable def its_f_x_6 (N : Nat) (nxS4 : St → Option Bool) (n : Nat) : St → Option Bool := fun S' => iter [] (annAt fi_f_x 6) (code (E_f_x N) (lpIn (lpIn fi_f_x.body 0 4) 4 6) 6) n S' (contOf (E_f_x N) (lpIn fi_f_x.body 0 4) 4 6 (kLoop [] (annAt fi_f_x 4) nxS4 (contOf (E_f_x N) fi_f_x.body 0 4 K_f_x)))
noncomputable def it_f_x_6 (N : Nat) (nxS4 : St → Option Bool) (b : Book) (t150 : Int) (t151 : Int) (t181 : List Part) (t182 : Int) (p8c0 : Int) (p8c1 : Int) (p8c2 : List Txt) (p8c3 : List Use) (p8c4 : List Txt) (p8c5 : List Txt) (p8c6 : Bool) (n : Nat) : Int → Option Bool := fun t183 => its_f_x_6 N nxS4 n (S_f_x_6 b t150 t151 t181 t182 p8c0 p8c1 p8c2 p8c3 p8c4 p8c5 p8c6 t183)
theorem fe_f_x_6 (N : Nat) (nxS4 : St → Option Bool) (b : Book) (t150 : Int) : it_f_x_6 N nxS4 b t150 = f_x_6 N (fun t151 => nxS4 (S_f_x_4 b t150 t151)) b t150 := funext fun t151 => funext fun t181 => funext fun t182 => funext fun p8c0 => funext fun p8c1 => funext fun p8c2 => funext fun p8c3 => funext fun p8c4 => funext fun p8c5 => funext fun p8c6 => funext (lp_all (by kernel_rfl) fun n => by
    show _ = f_x_6r N (fun t151 => nxS4 (S_f_x_4 b t150 t151)) b t150 t151 t181 t182 p8c0 p8c1 p8c2 p8c3 p8c4 p8c5 p8c6 (it_f_x_6 N nxS4 b t150 t151 t181 t182 p8c0 p8c1 p8c2 p8c3 p8c4 p8c5 p8c6 n)
    kernel_rfl)
noncomputable def its_f_x_4 (N : Nat) (n : Nat) : St → Option Bool := fun S' => iter [] (annAt fi_f_x 4) (code (E_f_x N) (lpIn fi_f_x.body 0 4) 4) n S' (contOf (E_f_x N) fi_f_x.body 0 4 K_f_x)
noncomputable def it_f_x_4 (N : Nat) (b : Book) (t150 : Int) (n : Nat) : Int → Option Bool := fun t151 => its_f_x_4 N n (S_f_x_4 b t150 t151)
theorem fe_f_x_4 (N : Nat) : it_f_x_4 N = f_x_4 N := funext fun b => funext fun t150 => funext (lp_all (by kernel_rfl) fun n => by
    show _ = f_x_4r N (f_x_6 N (it_f_x_4 N b t150 n) b t150) b t150 (it_f_x_4 N b t150 n)
    rw [show f_x_6 N (it_f_x_4 N b t150 n) b t150 = it_f_x_6 N (its_f_x_4 N n) b t150 from (fe_f_x_6 N (its_f_x_4 N n) b t150).symm]
    kernel_rfl)
noncomputable def its_f_x_2 (N : Nat) (n : Nat) : St → Option Bool := fun S' => iter [] (annAt fi_f_x 2) (code (E_f_x N) (lpIn fi_f_x.body 0 2) 2) n S' (contOf (E_f_x N) fi_f_x.body 0 2 K_f_x)
noncomputable def it_f_x_2 (N : Nat) (b : Book) (t82 : Int) (n : Nat) : Int → Option Bool := fun t83 => its_f_x_2 N n (S_f_x_2 b t82 t83)
theorem fe_f_x_2 (N : Nat) : it_f_x_2 N = f_x_2 N := funext fun b => funext fun t82 => funext (lp_all (by kernel_rfl) fun n => by
    show _ = f_x_2r N (f_x_4 N) b t82 (it_f_x_2 N b t82 n)
    rw [show f_x_4 N = it_f_x_4 N from (fe_f_x_4 N).symm]
    kernel_rfl)
noncomputable def its_f_x_0 (N : Nat) (n : Nat) : St → Option Bool := fun S' => iter [] (annAt fi_f_x 0) (code (E_f_x N) (lpIn fi_f_x.body 0 0) 0) n S' (contOf (E_f_x N) fi_f_x.body 0 0 K_f_x)
noncomputable def it_f_x_0 (N : Nat) (b : Book) (t41 : Int) (n : Nat) : Int → Option Bool := fun t42 => its_f_x_0 N n (S_f_x_0 b t41 t42)
theorem fe_f_x_0 (N : Nat) : it_f_x_0 N = f_x_0 N := funext fun b => funext fun t41 => funext (lp_all (by kernel_rfl) fun n => by
    show _ = f_x_0r N (f_x_2 N) b t41 (it_f_x_0 N b t41 n)
    rw [show f_x_2 N = it_f_x_2 N from (fe_f_x_2 N).symm]
    kernel_rfl)
theorem run_f_x (N : Nat) (b : (List ((List UInt8) × (List UInt8))) × ((List ((List UInt8) × ((Int) × ((Int) × ((Int) × (List Txt)))))) × ((List Txt) × ((List (((Int) × ((Int) × ((List Txt) × ((List ((List UInt8) × ((Int) × (Int)))) × ((List Txt) × (List Txt)))))) × (Bool))) × (Int))))) : runST (ofDs [.bool]) (tabOf tabL) (tabS (phiL_f_x N)) inl0 N fi_f_x sg_f_x [⟨tBook, b⟩] = F.f_x N b := by
    show _ = F.f_xb N (F.f_x_0 N) b
    rw [← fe_f_x_0 N]
    kernel_rfl
def sm_f_x (N : Nat) : Summ := summOf [.d tBook true] false [.d (.bool) false] [.bool] (F.f_x N)
theorem con_f_x (N : Nat) : Contract Tryz.prog 22 (sm_f_x N) := con_of (N := N) tabOK mixed (callOK_list (l := phiL_f_x N) (allc rfl (con_f_2r N) (allc rfl (con_f_39 N) (allc rfl (con_f_34 N) (allc rfl (con_f_o N) (allc rfl (con_f_m N) (allc rfl (con_f_g N) (allc rfl (con_f_2s N) (allc rfl (con_f_2q N) trivial))))))))) (inl0_ok _) ok_f_x (by decide) fun b => run_f_x N b
def an_f_1l : Nat → Option Ann
  | 0 => some ⟨{ fr := [(1, Dir.keep), (11, Dir.keep), (12, Dir.keep), (13, Dir.keep)], bx := [], os := [] }, [(0, { fr := [], bx := [], os := [] })], { fr := [(4, Dir.keep)], bx := [], os := [] }⟩
  | _ => none
noncomputable def fi_f_1l : FI := ⟨Tryz.f30.results.toList, bodyOf Tryz.f30.body, Tryz.f30.ntmps, an_f_1l⟩
theorem ok_f_1l : FnOK Tryz.prog 30 fi_f_1l := ⟨⟨Tryz.f30, Tryz.func30, by kernel_rfl, rfl, rfl, by kernel_rfl⟩, by kernel_rfl⟩
def phiL_f_1l (N : Nat) : List (Nat × Summ) := [(22, sm_f_x N), (101, sm_f_f N)]
def sg_f_1l : Summ := sigOf [.d tBook true, .d (.str) false] false [.d tInt false]
def S_f_1l_0 (b : Book) (valve : Txt) (t12 : Int) (t13 : Int) : St := ⟨[(1, .w (.one (.v Ty.str valve))), (11, .w (.one (.v tPart.slice b.2.2.2.1))), (12, .w (.one (.v tInt t12))), (13, .w (.one (.v tInt t13)))], []⟩
noncomputable def E_f_1l (N : Nat) : Env := envOf (tabOf tabL) (tabS (phiL_f_1l N)) inl0 N fi_f_1l []
noncomputable def K_f_1l := (kFun (tabOf tabL) fi_f_1l.res (kT (ofDs [tInt]) sg_f_1l []))
noncomputable def its_f_1l_0 (N : Nat) (n : Nat) : St → Option Int := fun S' => iter [] (annAt fi_f_1l 0) (code (E_f_1l N) (lpIn fi_f_1l.body 0 0) 0) n S' (contOf (E_f_1l N) fi_f_1l.body 0 0 K_f_1l)
noncomputable def it_f_1l_0 (N : Nat) (b : Book) (valve : Txt) (t12 : Int) (n : Nat) : Int → Option Int := fun t13 => its_f_1l_0 N n (S_f_1l_0 b valve t12 t13)
theorem fe_f_1l_0 (N : Nat) : it_f_1l_0 N = f_1l_0 N := funext fun b => funext fun valve => funext fun t12 => funext (lp_all (by kernel_rfl) fun n => by
    show _ = f_1l_0r N b valve t12 (it_f_1l_0 N b valve t12 n)
    kernel_rfl)
theorem run_f_1l (N : Nat) (b : (List ((List UInt8) × (List UInt8))) × ((List ((List UInt8) × ((Int) × ((Int) × ((Int) × (List Txt)))))) × ((List Txt) × ((List (((Int) × ((Int) × ((List Txt) × ((List ((List UInt8) × ((Int) × (Int)))) × ((List Txt) × (List Txt)))))) × (Bool))) × (Int))))) (valve : List UInt8) : runST (ofDs [tInt]) (tabOf tabL) (tabS (phiL_f_1l N)) inl0 N fi_f_1l sg_f_1l [⟨tBook, b⟩, ⟨.str, valve⟩] = F.f_1l N b valve := by
    show _ = F.f_1lb N (F.f_1l_0 N) b valve
    rw [← fe_f_1l_0 N]
    kernel_rfl
def sm_f_1l (N : Nat) : Summ := summOf [.d tBook true, .d (.str) false] false [.d tInt false] [tInt] (F.f_1l N)
theorem con_f_1l (N : Nat) : Contract Tryz.prog 30 (sm_f_1l N) := con_of (N := N) tabOK mixed (callOK_list (l := phiL_f_1l N) (allc rfl (con_f_x N) (allc rfl (con_f_f N) trivial))) (inl0_ok _) ok_f_1l (by decide) fun b valve => run_f_1l N b valve
def an_f_17 : Nat → Option Ann
  | 0 => some ⟨{ fr := [(1, Dir.keep), (5, Dir.own 700005 3 tInt), (13, Dir.keep), (14, Dir.keep), (15, Dir.keep)], bx := [], os := [] }, [(0, { fr := [(5, Dir.own 700005 3 tInt)], bx := [], os := [] })], ⟨[], [], []⟩⟩
  | _ => none
noncomputable def fi_f_17 : FI := ⟨Tryz.f31.results.toList, bodyOf Tryz.f31.body, Tryz.f31.ntmps, an_f_17⟩
theorem ok_f_17 : FnOK Tryz.prog 31 fi_f_17 := ⟨⟨Tryz.f31, Tryz.func31, by kernel_rfl, rfl, rfl, by kernel_rfl⟩, by kernel_rfl⟩
def phiL_f_17 (N : Nat) : List (Nat × Summ) := [(22, sm_f_x N), (101, sm_f_f N)]
def sg_f_17 : Summ := sigOf [.d tBook true, .d (.str) false] false [.own (.slice tInt) false [(3, none)]]
def S_f_17_0 (b : Book) (valve : Txt) (t14 : Int) (t15 : Int) (out5a : List Int) : St := { fr := [(1, .w (.one (.v Ty.str valve))), (5, AV.w (V1.one (C.arr 700005))), (13, .w (.one (.v tPart.slice b.2.2.2.1))), (14, .w (.one (.v tInt t14))), (15, .w (.one (.v tInt t15)))], H := [(700005, Ob.arr 3 tInt out5a)] }
noncomputable def E_f_17 (N : Nat) : Env := envOf (tabOf tabL) (tabS (phiL_f_17 N)) inl0 N fi_f_17 []
noncomputable def K_f_17 := (kFun (tabOf tabL) fi_f_17.res (kT (ofDs [.slice tInt]) sg_f_17 []))
noncomputable def its_f_17_0 (N : Nat) (n : Nat) : St → Option (List Int) := fun S' => iter [] (annAt fi_f_17 0) (code (E_f_17 N) (lpIn fi_f_17.body 0 0) 0) n S' (contOf (E_f_17 N) fi_f_17.body 0 0 K_f_17)
noncomputable def it_f_17_0 (N : Nat) (b : Book) (valve : Txt) (t14 : Int) (n : Nat) : Int → (List Int) → Option (List Int) := fun t15 out5a => its_f_17_0 N n (S_f_17_0 b valve t14 t15 out5a)
theorem fe_f_17_0 (N : Nat) : it_f_17_0 N = f_17_0 N := funext fun b => funext fun valve => funext fun t14 => funext (lp_all (by kernel_rfl) fun n => by
    show _ = f_17_0r N b valve t14 (it_f_17_0 N b valve t14 n)
    kernel_rfl)
theorem run_f_17 (N : Nat) (b : (List ((List UInt8) × (List UInt8))) × ((List ((List UInt8) × ((Int) × ((Int) × ((Int) × (List Txt)))))) × ((List Txt) × ((List (((Int) × ((Int) × ((List Txt) × ((List ((List UInt8) × ((Int) × (Int)))) × ((List Txt) × (List Txt)))))) × (Bool))) × (Int))))) (valve : List UInt8) : runST (ofDs [.slice tInt]) (tabOf tabL) (tabS (phiL_f_17 N)) inl0 N fi_f_17 sg_f_17 [⟨tBook, b⟩, ⟨.str, valve⟩] = F.f_17 N b valve := by
    show _ = F.f_17b N (F.f_17_0 N) b valve
    rw [← fe_f_17_0 N]
    kernel_rfl
def sm_f_17 (N : Nat) : Summ := summOf [.d tBook true, .d (.str) false] false [.own (.slice tInt) false [(3, none)]] [.slice tInt] (F.f_17 N)
theorem con_f_17 (N : Nat) : Contract Tryz.prog 31 (sm_f_17 N) := con_of (N := N) tabOK mixed (callOK_list (l := phiL_f_17 N) (allc rfl (con_f_x N) (allc rfl (con_f_f N) trivial))) (inl0_ok _) ok_f_17 (by decide) fun b valve => run_f_17 N b valve
def an_f_1p : Nat → Option Ann
  | 0 => some ⟨{ fr := [(1, Dir.keep), (2, Dir.keep), (5, Dir.keep)], bx := [(2, [Dir.keep, Dir.keep, Dir.keep, Dir.keep, Dir.keep])], os := [] }, [(0, { fr := [], bx := [], os := [] })], { fr := [(4, Dir.keep)], bx := [], os := [] }⟩
  | _ => none
noncomputable def fi_f_1p : FI := ⟨Tryz.f32.results.toList, bodyOf Tryz.f32.body, Tryz.f32.ntmps, an_f_1p⟩
theorem ok_f_1p : FnOK Tryz.prog 32 fi_f_1p := ⟨⟨Tryz.f32, Tryz.func32, by kernel_rfl, rfl, rfl, by kernel_rfl⟩, by kernel_rfl⟩
def phiL_f_1p (N : Nat) : List (Nat × Summ) := [(45, sm_f_10 N), (102, sm_f_2z N)]
def sg_f_1p : Summ := sigOf [.d tBook true, .d (.str) false] false [.d tInt false]
def S_f_1p_0 (b : Book) (valve : Txt) (i5 : Int) : St := { fr := [(1, .w (.one (.v Ty.str valve))), (2, AV.w (V1.one (C.pb 2 0))), (5, .w (.one (.v tInt i5)))], H := [(2, Ob.box [C.v tFoe.slice b.1, C.v tSpot.slice b.2.1, C.v tTxts b.2.2.1, C.v tPart.slice b.2.2.2.1, C.v tInt b.2.2.2.2])] }
noncomputable def E_f_1p (N : Nat) : Env := envOf (tabOf tabL) (tabS (phiL_f_1p N)) inl0 N fi_f_1p []
noncomputable def K_f_1p := (kFun (tabOf tabL) fi_f_1p.res (kT (ofDs [tInt]) sg_f_1p []))
noncomputable def its_f_1p_0 (N : Nat) (n : Nat) : St → Option Int := fun S' => iter [] (annAt fi_f_1p 0) (code (E_f_1p N) (lpIn fi_f_1p.body 0 0) 0) n S' (contOf (E_f_1p N) fi_f_1p.body 0 0 K_f_1p)
noncomputable def it_f_1p_0 (N : Nat) (b : Book) (valve : Txt) (n : Nat) : Int → Option Int := fun i5 => its_f_1p_0 N n (S_f_1p_0 b valve i5)
theorem fe_f_1p_0 (N : Nat) : it_f_1p_0 N = f_1p_0 N := funext fun b => funext fun valve => funext (lp_all (by kernel_rfl) fun n => by
    show _ = f_1p_0r N b valve (it_f_1p_0 N b valve n)
    kernel_rfl)
theorem run_f_1p (N : Nat) (b : (List ((List UInt8) × (List UInt8))) × ((List ((List UInt8) × ((Int) × ((Int) × ((Int) × (List Txt)))))) × ((List Txt) × ((List (((Int) × ((Int) × ((List Txt) × ((List ((List UInt8) × ((Int) × (Int)))) × ((List Txt) × (List Txt)))))) × (Bool))) × (Int))))) (valve : List UInt8) : runST (ofDs [tInt]) (tabOf tabL) (tabS (phiL_f_1p N)) inl0 N fi_f_1p sg_f_1p [⟨tBook, b⟩, ⟨.str, valve⟩] = F.f_1p N b valve := by
    show _ = F.f_1pb N (F.f_1p_0 N) b valve
    rw [← fe_f_1p_0 N]
    kernel_rfl
def sm_f_1p (N : Nat) : Summ := summOf [.d tBook true, .d (.str) false] false [.d tInt false] [tInt] (F.f_1p N)
theorem con_f_1p (N : Nat) : Contract Tryz.prog 32 (sm_f_1p N) := con_of (N := N) tabOK mixed (callOK_list (l := phiL_f_1p N) (allc rfl (con_f_10 N) (allc rfl (con_f_2z N) trivial))) (inl0_ok _) ok_f_1p (by decide) fun b valve => run_f_1p N b valve
def an_f_1d : Nat → Option Ann
  | 0 => some ⟨{ fr := [(1, Dir.keep), (2, Dir.keep), (5, Dir.own 700005 3 tInt), (6, Dir.keep)], bx := [(2, [Dir.keep, Dir.keep, Dir.keep, Dir.keep, Dir.keep])], os := [] }, [(0, { fr := [(5, Dir.own 700005 3 tInt)], bx := [], os := [] })], ⟨[], [], []⟩⟩
  | _ => none
noncomputable def fi_f_1d : FI := ⟨Tryz.f34.results.toList, bodyOf Tryz.f34.body, Tryz.f34.ntmps, an_f_1d⟩
theorem ok_f_1d : FnOK Tryz.prog 34 fi_f_1d := ⟨⟨Tryz.f34, Tryz.func34, by kernel_rfl, rfl, rfl, by kernel_rfl⟩, by kernel_rfl⟩
def phiL_f_1d (N : Nat) : List (Nat × Summ) := [(45, sm_f_10 N), (102, sm_f_2z N)]
def sg_f_1d : Summ := sigOf [.d tBook true, .d (.str) false] false [.own (.slice tInt) false [(3, none)]]
def S_f_1d_0 (b : Book) (valve : Txt) (i6 : Int) (out5a : List Int) : St := { fr := [(1, .w (.one (.v Ty.str valve))), (2, AV.w (V1.one (C.pb 2 0))), (5, AV.w (V1.one (C.arr 700005))), (6, .w (.one (.v tInt i6)))], H := [(2, Ob.box [C.v tFoe.slice b.1, C.v tSpot.slice b.2.1, C.v tTxts b.2.2.1, C.v tPart.slice b.2.2.2.1, C.v tInt b.2.2.2.2]), (700005, Ob.arr 3 tInt out5a)] }
noncomputable def E_f_1d (N : Nat) : Env := envOf (tabOf tabL) (tabS (phiL_f_1d N)) inl0 N fi_f_1d []
noncomputable def K_f_1d := (kFun (tabOf tabL) fi_f_1d.res (kT (ofDs [.slice tInt]) sg_f_1d []))
noncomputable def its_f_1d_0 (N : Nat) (n : Nat) : St → Option (List Int) := fun S' => iter [] (annAt fi_f_1d 0) (code (E_f_1d N) (lpIn fi_f_1d.body 0 0) 0) n S' (contOf (E_f_1d N) fi_f_1d.body 0 0 K_f_1d)
noncomputable def it_f_1d_0 (N : Nat) (b : Book) (valve : Txt) (n : Nat) : Int → (List Int) → Option (List Int) := fun i6 out5a => its_f_1d_0 N n (S_f_1d_0 b valve i6 out5a)
theorem fe_f_1d_0 (N : Nat) : it_f_1d_0 N = f_1d_0 N := funext fun b => funext fun valve => funext (lp_all (by kernel_rfl) fun n => by
    show _ = f_1d_0r N b valve (it_f_1d_0 N b valve n)
    kernel_rfl)
theorem run_f_1d (N : Nat) (b : (List ((List UInt8) × (List UInt8))) × ((List ((List UInt8) × ((Int) × ((Int) × ((Int) × (List Txt)))))) × ((List Txt) × ((List (((Int) × ((Int) × ((List Txt) × ((List ((List UInt8) × ((Int) × (Int)))) × ((List Txt) × (List Txt)))))) × (Bool))) × (Int))))) (valve : List UInt8) : runST (ofDs [.slice tInt]) (tabOf tabL) (tabS (phiL_f_1d N)) inl0 N fi_f_1d sg_f_1d [⟨tBook, b⟩, ⟨.str, valve⟩] = F.f_1d N b valve := by
    show _ = F.f_1db N (F.f_1d_0 N) b valve
    rw [← fe_f_1d_0 N]
    kernel_rfl
def sm_f_1d (N : Nat) : Summ := summOf [.d tBook true, .d (.str) false] false [.own (.slice tInt) false [(3, none)]] [.slice tInt] (F.f_1d N)
theorem con_f_1d (N : Nat) : Contract Tryz.prog 34 (sm_f_1d N) := con_of (N := N) tabOK mixed (callOK_list (l := phiL_f_1d N) (allc rfl (con_f_10 N) (allc rfl (con_f_2z N) trivial))) (inl0_ok _) ok_f_1d (by decide) fun b valve => run_f_1d N b valve
def an_f_2v : Nat → Option Ann
  | 0 => some ⟨{ fr := [(0, Dir.keep), (1, Dir.keep), (5, Dir.keep)], bx := [], os := [] }, [(0, { fr := [], bx := [], os := [] })], { fr := [(4, Dir.keep)], bx := [], os := [] }⟩
  | _ => none
noncomputable def fi_f_2v : FI := ⟨Tryz.f33.results.toList, bodyOf Tryz.f33.body, Tryz.f33.ntmps, an_f_2v⟩
theorem ok_f_2v : FnOK Tryz.prog 33 fi_f_2v := ⟨⟨Tryz.f33, Tryz.func33, by kernel_rfl, rfl, rfl, by kernel_rfl⟩, by kernel_rfl⟩
def phiL_f_2v (N : Nat) : List (Nat × Summ) := []
def sg_f_2v : Summ := sigOf [.d (.slice tInt) false, .d (.slice tInt) false] false [.d (.bool) false]
def S_f_2v_0 (a : List Int) (b : List Int) (i5 : Int) : St := ⟨[(0, .w (.one (.v tInt.slice a))), (1, .w (.one (.v tInt.slice b))), (5, .w (.one (.v tInt i5)))], []⟩
noncomputable def E_f_2v (N : Nat) : Env := envOf (tabOf tabL) (tabS (phiL_f_2v N)) inl0 N fi_f_2v []
noncomputable def K_f_2v := (kFun (tabOf tabL) fi_f_2v.res (kT (ofDs [.bool]) sg_f_2v []))
noncomputable def its_f_2v_0 (N : Nat) (n : Nat) : St → Option Bool := fun S' => iter [] (annAt fi_f_2v 0) (code (E_f_2v N) (lpIn fi_f_2v.body 0 0) 0) n S' (contOf (E_f_2v N) fi_f_2v.body 0 0 K_f_2v)
noncomputable def it_f_2v_0 (N : Nat) (a : List Int) (b : List Int) (n : Nat) : Int → Option Bool := fun i5 => its_f_2v_0 N n (S_f_2v_0 a b i5)
theorem fe_f_2v_0 (N : Nat) : it_f_2v_0 N = f_2v_0 N := funext fun a => funext fun b => funext (lp_all (by kernel_rfl) fun n => by
    show _ = f_2v_0r N a b (it_f_2v_0 N a b n)
    kernel_rfl)
theorem run_f_2v (N : Nat) (a : List (Int)) (b : List (Int)) : runST (ofDs [.bool]) (tabOf tabL) (tabS (phiL_f_2v N)) inl0 N fi_f_2v sg_f_2v [⟨.slice tInt, a⟩, ⟨.slice tInt, b⟩] = F.f_2v N a b := by
    show _ = F.f_2vb N (F.f_2v_0 N) a b
    rw [← fe_f_2v_0 N]
    kernel_rfl
def sm_f_2v (N : Nat) : Summ := summOf [.d (.slice tInt) false, .d (.slice tInt) false] false [.d (.bool) false] [.bool] (F.f_2v N)
theorem con_f_2v (N : Nat) : Contract Tryz.prog 33 (sm_f_2v N) := con_of (N := N) tabOK mixed (callOK_list (l := phiL_f_2v N) trivial) (inl0_ok _) ok_f_2v (by decide) fun a b => run_f_2v N a b
def an_f_2w : Nat → Option Ann
  | 0 => some ⟨{ fr := [(1, Dir.keep), (2, Dir.keep), (4, Dir.keep), (5, Dir.keep)], bx := [(2, [Dir.keep, Dir.keep, Dir.keep, Dir.keep, Dir.keep]), (4, [Dir.keep, Dir.keep, Dir.keep, Dir.keep, Dir.keep, Dir.keep])], os := [] }, [(0, { fr := [(4, Dir.keep)], bx := [(4, [Dir.keep, Dir.keep, Dir.frz Ty.str, Dir.frz tUse, Dir.frz Ty.str, Dir.frz Ty.str])], os := [] })], { fr := [(4, Dir.keep)], bx := [(4, [Dir.keep, Dir.keep, Dir.frz Ty.str, Dir.frz tUse, Dir.frz Ty.str, Dir.frz Ty.str])], os := [] }⟩
  | _ => none
noncomputable def fi_f_2w : FI := ⟨Tryz.f18.results.toList, bodyOf Tryz.f18.body, Tryz.f18.ntmps, an_f_2w⟩
theorem ok_f_2w : FnOK Tryz.prog 18 fi_f_2w := ⟨⟨Tryz.f18, Tryz.func18, by kernel_rfl, rfl, rfl, by kernel_rfl⟩, by kernel_rfl⟩
def phiL_f_2w (N : Nat) : List (Nat × Summ) := []
def sg_f_2w : Summ := sigOf [.d tBook true, .d tInt false] true [.d tWant true]
def S_f_2w_0 (b : Book) (number : Int) (t4c0 : Int) (t4c1 : Int) (i5 : Int) : St := { fr := [(1, .w (.one (.v tInt number))), (2, AV.w (V1.one (C.pb 2 0))), (4, AV.w (V1.one (C.pb 4 0))), (5, .w (.one (.v tInt i5)))], H := [(2, Ob.box [C.v tFoe.slice b.1, C.v tSpot.slice b.2.1, C.v tTxts b.2.2.1, C.v tPart.slice b.2.2.2.1, C.v tInt b.2.2.2.2]), (4, Ob.box [C.v tInt t4c0, C.v tInt t4c1, C.emp, C.emp, C.emp, C.emp])] }
noncomputable def E_f_2w (N : Nat) : Env := envOf (tabOf tabL) (tabS (phiL_f_2w N)) inl0 N fi_f_2w []
noncomputable def K_f_2w := (kFun (tabOf tabL) fi_f_2w.res (kT (ofDs [tWant]) sg_f_2w []))
noncomputable def its_f_2w_0 (N : Nat) (n : Nat) : St → Option Want := fun S' => iter [] (annAt fi_f_2w 0) (code (E_f_2w N) (lpIn fi_f_2w.body 0 0) 0) n S' (contOf (E_f_2w N) fi_f_2w.body 0 0 K_f_2w)
noncomputable def it_f_2w_0 (N : Nat) (b : Book) (number : Int) (t4c0 : Int) (t4c1 : Int) (n : Nat) : Int → Option Want := fun i5 => its_f_2w_0 N n (S_f_2w_0 b number t4c0 t4c1 i5)
theorem fe_f_2w_0 (N : Nat) : it_f_2w_0 N = f_2w_0 N := funext fun b => funext fun number => funext fun t4c0 => funext fun t4c1 => funext (lp_all (by kernel_rfl) fun n => by
    show _ = f_2w_0r N b number t4c0 t4c1 (it_f_2w_0 N b number t4c0 t4c1 n)
    kernel_rfl)
theorem run_f_2w (N : Nat) (b : (List ((List UInt8) × (List UInt8))) × ((List ((List UInt8) × ((Int) × ((Int) × ((Int) × (List Txt)))))) × ((List Txt) × ((List (((Int) × ((Int) × ((List Txt) × ((List ((List UInt8) × ((Int) × (Int)))) × ((List Txt) × (List Txt)))))) × (Bool))) × (Int))))) (number : Int) : runST (ofDs [tWant]) (tabOf tabL) (tabS (phiL_f_2w N)) inl0 N fi_f_2w sg_f_2w [⟨tBook, b⟩, ⟨tInt, number⟩] = F.f_2w N b number := by
    show _ = F.f_2wb N (F.f_2w_0 N) b number
    rw [← fe_f_2w_0 N]
    kernel_rfl
def sm_f_2w (N : Nat) : Summ := summOf [.d tBook true, .d tInt false] true [.d tWant true] [tWant] (F.f_2w N)
theorem con_f_2w (N : Nat) : Contract Tryz.prog 18 (sm_f_2w N) := con_of (N := N) tabOK mixed (callOK_list (l := phiL_f_2w N) trivial) (inl0_ok _) ok_f_2w (by decide) fun b number => run_f_2w N b number
def an_f_36 : Nat → Option Ann
  | 0 => some ⟨{ fr := [(0, Dir.keep), (1, Dir.keep), (5, Dir.keep)], bx := [], os := [] }, [(0, { fr := [], bx := [], os := [] })], { fr := [(4, Dir.keep)], bx := [], os := [] }⟩
  | _ => none
noncomputable def fi_f_36 : FI := ⟨Tryz.f35.results.toList, bodyOf Tryz.f35.body, Tryz.f35.ntmps, an_f_36⟩
theorem ok_f_36 : FnOK Tryz.prog 35 fi_f_36 := ⟨⟨Tryz.f35, Tryz.func35, by kernel_rfl, rfl, rfl, by kernel_rfl⟩, by kernel_rfl⟩
def phiL_f_36 (N : Nat) : List (Nat × Summ) := []
def sg_f_36 : Summ := sigOf [.d tTxts false, .d (.str) false] false [.d (.bool) false]
def S_f_36_0 (list : List Txt) (name : Txt) (i5 : Int) : St := ⟨[(0, .w (.one (.v tTxts list))), (1, .w (.one (.v Ty.str name))), (5, .w (.one (.v tInt i5)))], []⟩
noncomputable def E_f_36 (N : Nat) : Env := envOf (tabOf tabL) (tabS (phiL_f_36 N)) inl0 N fi_f_36 []
noncomputable def K_f_36 := (kFun (tabOf tabL) fi_f_36.res (kT (ofDs [.bool]) sg_f_36 []))
noncomputable def its_f_36_0 (N : Nat) (n : Nat) : St → Option Bool := fun S' => iter [] (annAt fi_f_36 0) (code (E_f_36 N) (lpIn fi_f_36.body 0 0) 0) n S' (contOf (E_f_36 N) fi_f_36.body 0 0 K_f_36)
noncomputable def it_f_36_0 (N : Nat) (list : List Txt) (name : Txt) (n : Nat) : Int → Option Bool := fun i5 => its_f_36_0 N n (S_f_36_0 list name i5)
theorem fe_f_36_0 (N : Nat) : it_f_36_0 N = f_36_0 N := funext fun list => funext fun name => funext (lp_all (by kernel_rfl) fun n => by
    show _ = f_36_0r N list name (it_f_36_0 N list name n)
    kernel_rfl)
theorem run_f_36 (N : Nat) (list : List (List UInt8)) (name : List UInt8) : runST (ofDs [.bool]) (tabOf tabL) (tabS (phiL_f_36 N)) inl0 N fi_f_36 sg_f_36 [⟨tTxts, list⟩, ⟨.str, name⟩] = F.f_36 N list name := by
    show _ = F.f_36b N (F.f_36_0 N) list name
    rw [← fe_f_36_0 N]
    kernel_rfl
def sm_f_36 (N : Nat) : Summ := summOf [.d tTxts false, .d (.str) false] false [.d (.bool) false] [.bool] (F.f_36 N)
theorem con_f_36 (N : Nat) : Contract Tryz.prog 35 (sm_f_36 N) := con_of (N := N) tabOK mixed (callOK_list (l := phiL_f_36 N) trivial) (inl0_ok _) ok_f_36 (by decide) fun list name => run_f_36 N list name
def an_f_s : Nat → Option Ann := fun _ => none
noncomputable def fi_f_s : FI := ⟨Tryz.f36.results.toList, bodyOf Tryz.f36.body, Tryz.f36.ntmps, an_f_s⟩
theorem ok_f_s : FnOK Tryz.prog 36 fi_f_s := ⟨⟨Tryz.f36, Tryz.func36, by kernel_rfl, rfl, rfl, by kernel_rfl⟩, by kernel_rfl⟩
def phiL_f_s (N : Nat) : List (Nat × Summ) := [(99, sm_f_31 N), (103, sm_f_38 N)]
def sg_f_s : Summ := sigOf [.d (.slice tByte) false] true [.d tBook true, .d tInt false]
theorem run_f_s (N : Nat) (code : List (Int)) : runST (ofDs [tBook, tInt]) (tabOf tabL) (tabS (phiL_f_s N)) (inlB libL [(50, fi_spec_l1Open)] (tabOf tabL) (tabS (phiL_f_s N)) N) N fi_f_s sg_f_s [⟨.slice tByte, code⟩] = F.f_s N code := by kernel_rfl
def sm_f_s (N : Nat) : Summ := summOf [.d (.slice tByte) false] true [.d tBook true, .d tInt false] [tBook, tInt] (F.f_s N)
theorem con_f_s (N : Nat) : Contract Tryz.prog 36 (sm_f_s N) := con_of (N := N) tabOK mixed (callOK_list (l := phiL_f_s N) (allc rfl (con_f_31 N) (allc rfl (con_f_38 N) trivial))) (inlB_ok (L := libL) (Fs := [(50, fi_spec_l1Open)]) libs_ok (And.intro ok_spec_l1Open trivial) tabOK (callOK_list (l := phiL_f_s N) (allc rfl (con_f_31 N) (allc rfl (con_f_38 N) trivial))) mixed) ok_f_s (by decide) fun code => run_f_s N code
end
end Go.MC

set_option linter.unusedVariables false
set_option maxRecDepth 100000
namespace Go.MC
open Go.Proofs Go.MC.F
noncomputable section
def an_f_h : Nat → Option Ann := fun _ => none
noncomputable def fi_f_h : FI := ⟨Tryz.f133.results.toList, bodyOf Tryz.f133.body, Tryz.f133.ntmps, an_f_h⟩
theorem ok_f_h : FnOK Tryz.prog 133 fi_f_h := ⟨⟨Tryz.f133, Tryz.func133, by kernel_rfl, rfl, rfl, by kernel_rfl⟩, by kernel_rfl⟩
def phiL_f_h (N : Nat) : List (Nat × Summ) := []
def sg_f_h : Summ := sigOf [.d (.slice tFoe) false] false [.own (.slice tFoe) false [(106, none)]]
theorem run_f_h (N : Nat) (s : List ((List UInt8) × (List UInt8))) : runST (ofDs [.slice tFoe]) (tabOf tabL) (tabS (phiL_f_h N)) inl0 N fi_f_h sg_f_h [⟨.slice tFoe, s⟩] = F.f_h N s := by kernel_rfl
def sm_f_h (N : Nat) : Summ := summOf [.d (.slice tFoe) false] false [.own (.slice tFoe) false [(106, none)]] [.slice tFoe] (F.f_h N)
theorem con_f_h (N : Nat) : Contract Tryz.prog 133 (sm_f_h N) := con_of (N := N) tabOK mixed (callOK_list (l := phiL_f_h N) trivial) (inl0_ok _) ok_f_h (by decide) fun s => run_f_h N s
def an_f_p : Nat → Option Ann := fun _ => none
noncomputable def fi_f_p : FI := ⟨Tryz.f134.results.toList, bodyOf Tryz.f134.body, Tryz.f134.ntmps, an_f_p⟩
theorem ok_f_p : FnOK Tryz.prog 134 fi_f_p := ⟨⟨Tryz.f134, Tryz.func134, by kernel_rfl, rfl, rfl, by kernel_rfl⟩, by kernel_rfl⟩
def phiL_f_p (N : Nat) : List (Nat × Summ) := []
def sg_f_p : Summ := sigOf [.d tTxts false] false [.own tTxts false [(9, none)]]
theorem run_f_p (N : Nat) (s : List (List UInt8)) : runST (ofDs [tTxts]) (tabOf tabL) (tabS (phiL_f_p N)) inl0 N fi_f_p sg_f_p [⟨tTxts, s⟩] = F.f_p N s := by kernel_rfl
def sm_f_p (N : Nat) : Summ := summOf [.d tTxts false] false [.own tTxts false [(9, none)]] [tTxts] (F.f_p N)
theorem con_f_p (N : Nat) : Contract Tryz.prog 134 (sm_f_p N) := con_of (N := N) tabOK mixed (callOK_list (l := phiL_f_p N) trivial) (inl0_ok _) ok_f_p (by decide) fun s => run_f_p N s
def an_f_i : Nat → Option Ann := fun _ => none
noncomputable def fi_f_i : FI := ⟨Tryz.f139.results.toList, bodyOf Tryz.f139.body, Tryz.f139.ntmps, an_f_i⟩
theorem ok_f_i : FnOK Tryz.prog 139 fi_f_i := ⟨⟨Tryz.f139, Tryz.func139, by kernel_rfl, rfl, rfl, by kernel_rfl⟩, by kernel_rfl⟩
def phiL_f_i (N : Nat) : List (Nat × Summ) := []
def sg_f_i : Summ := sigOf [.d (.slice tUse) false] false [.own (.slice tUse) false [(82, none)]]
theorem run_f_i (N : Nat) (s : List ((List UInt8) × ((Int) × (Int)))) : runST (ofDs [.slice tUse]) (tabOf tabL) (tabS (phiL_f_i N)) inl0 N fi_f_i sg_f_i [⟨.slice tUse, s⟩] = F.f_i N s := by kernel_rfl
def sm_f_i (N : Nat) : Summ := summOf [.d (.slice tUse) false] false [.own (.slice tUse) false [(82, none)]] [.slice tUse] (F.f_i N)
theorem con_f_i (N : Nat) : Contract Tryz.prog 139 (sm_f_i N) := con_of (N := N) tabOK mixed (callOK_list (l := phiL_f_i N) trivial) (inl0_ok _) ok_f_i (by decide) fun s => run_f_i N s
def an_f_1n : Nat → Option Ann := fun _ => none
noncomputable def fi_f_1n : FI := ⟨Tryz.f65.results.toList, bodyOf Tryz.f65.body, Tryz.f65.ntmps, an_f_1n⟩
theorem ok_f_1n : FnOK Tryz.prog 65 fi_f_1n := ⟨⟨Tryz.f65, Tryz.func65, by kernel_rfl, rfl, rfl, by kernel_rfl⟩, by kernel_rfl⟩
def phiL_f_1n (N : Nat) : List (Nat × Summ) := [(134, sm_f_p N), (139, sm_f_i N)]
def sg_f_1n : Summ := sigOf [.d tWant true] false [.own tWant true [(9, none), (82, none), (9, none), (9, none)]]
theorem run_f_1n (N : Nat) (w : (Int) × ((Int) × ((List Txt) × ((List ((List UInt8) × ((Int) × (Int)))) × ((List Txt) × (List Txt)))))) : runST (ofDs [tWant]) (tabOf tabL) (tabS (phiL_f_1n N)) inl0 N fi_f_1n sg_f_1n [⟨tWant, w⟩] = F.f_1n N w := by kernel_rfl
def sm_f_1n (N : Nat) : Summ := summOf [.d tWant true] false [.own tWant true [(9, none), (82, none), (9, none), (9, none)]] [tWant] (F.f_1n N)
theorem con_f_1n (N : Nat) : Contract Tryz.prog 65 (sm_f_1n N) := con_of (N := N) tabOK mixed (callOK_list (l := phiL_f_1n N) (allc rfl (con_f_p N) (allc rfl (con_f_i N) trivial))) (inl0_ok _) ok_f_1n (by decide) fun w => run_f_1n N w
def an_f_1m : Nat → Option Ann
  | 0 => some ⟨{ fr := [(1, Dir.keep), (2, Dir.keep), (3, Dir.keep), (18, Dir.keep), (19, Dir.keep), (20, Dir.keep)], bx := [(1, [Dir.keep, Dir.keep, Dir.keep, Dir.keep, Dir.keep]), (2, [Dir.keep, Dir.keep, Dir.keep, Dir.keep, Dir.keep]), (3, [Dir.own 1000300 106 tFoe, Dir.dow 1000301 34 [9] tSpot, Dir.own 1000302 9 Ty.str, Dir.keep, Dir.keep])], os := [] }, [(0, { fr := [(1, Dir.keep), (2, Dir.keep), (3, Dir.keep)], bx := [(1, [Dir.keep, Dir.keep, Dir.keep, Dir.keep, Dir.keep]), (2, [Dir.keep, Dir.keep, Dir.keep, Dir.keep, Dir.keep]), (3, [Dir.own 1000300 106 tFoe, Dir.dow 1000301 34 [9] tSpot, Dir.own 1000302 9 Ty.str, Dir.keep, Dir.keep])], os := [] })], ⟨[], [], []⟩⟩
  | 2 => some ⟨{ fr := [(2, Dir.keep), (3, Dir.keep), (36, Dir.keep), (37, Dir.keep), (38, Dir.keep)], bx := [(2, [Dir.keep, Dir.keep, Dir.keep, Dir.keep, Dir.keep]), (3, [Dir.own 1000300 106 tFoe, Dir.dow 1000301 34 [9] tSpot, Dir.own 1000302 9 Ty.str, Dir.dow 1000303 94 [9, 82, 9, 9] tPart, Dir.keep])], os := [] }, [(2, { fr := [(2, Dir.keep), (3, Dir.keep)], bx := [(2, [Dir.keep, Dir.keep, Dir.keep, Dir.keep, Dir.keep]), (3, [Dir.own 1000300 106 tFoe, Dir.dow 1000301 34 [9] tSpot, Dir.own 1000302 9 Ty.str, Dir.dow 1000303 94 [9, 82, 9, 9] tPart, Dir.keep])], os := [] })], ⟨[], [], []⟩⟩
  | _ => none
noncomputable def fi_f_1m : FI := ⟨Tryz.f56.results.toList, bodyOf Tryz.f56.body, Tryz.f56.ntmps, an_f_1m⟩
theorem ok_f_1m : FnOK Tryz.prog 56 fi_f_1m := ⟨⟨Tryz.f56, Tryz.func56, by kernel_rfl, rfl, rfl, by kernel_rfl⟩, by kernel_rfl⟩
def phiL_f_1m (N : Nat) : List (Nat × Summ) := [(133, sm_f_h N), (134, sm_f_p N), (65, sm_f_1n N)]
def sg_f_1m : Summ := sigOf [.d tBook true] false [.own tBook true [(106, none), (34, (some [9])), (9, none), (94, (some [9, 82, 9, 9]))]]
def S_f_1m_2 (b : Book) (r : List Foe) (r_1 : List Txt) (t2c4 : Int) (out3c1a : List Spot) (t37 : Int) (t38 : Int) (out3c3a : List Part) : St := { fr := [(2, AV.w (V1.one (C.pb 2 0))), (3, AV.w (V1.one (C.pb 3 0))), (36, .w (.one (.v tPart.slice b.2.2.2.1))), (37, .w (.one (.v tInt t37))), (38, .w (.one (.v tInt t38)))], H := [(2, Ob.box [C.emp, C.emp, C.emp, C.emp, C.v tInt t2c4]), (3, Ob.box [C.arr 1000300, C.arr 1000301, C.arr 1000302, C.arr 1000303, C.v tInt b.2.2.2.2]), (1000300, Ob.arr 106 tFoe r), (1000301, Ob.arr 34 tSpot out3c1a (Dp.yes [9])), (1000302, Ob.arr 9 Ty.str r_1), (1000303, Ob.arr 94 tPart out3c3a (Dp.yes [9, 82, 9, 9]))] }
def S_f_1m_0 (b : Book) (r : List Foe) (r_1 : List Txt) (t19 : Int) (t2c4 : Int) (t20 : Int) (out3c1a : List Spot) : St := { fr := [(1, AV.w (V1.one (C.pb 1 0))), (2, AV.w (V1.one (C.pb 2 0))), (3, AV.w (V1.one (C.pb 3 0))), (18, .w (.one (.v tSpot.slice b.2.1))), (19, .w (.one (.v tInt t19))), (20, .w (.one (.v tInt t20)))], H := [(1, Ob.box [C.v tFoe.slice b.1, C.v tSpot.slice b.2.1, C.v tTxts b.2.2.1, C.v tPart.slice b.2.2.2.1, C.v tInt b.2.2.2.2]), (2, Ob.box [C.emp, C.emp, C.emp, C.emp, C.v tInt t2c4]), (3, Ob.box [C.arr 1000300, C.arr 1000301, C.arr 1000302, C.emp, C.v tInt b.2.2.2.2]), (1000300, Ob.arr 106 tFoe r), (1000301, Ob.arr 34 tSpot out3c1a (Dp.yes [9])), (1000302, Ob.arr 9 Ty.str r_1)] }
noncomputable def E_f_1m (N : Nat) : Env := envOf (tabOf tabL) (tabS (phiL_f_1m N)) inl0 N fi_f_1m []
noncomputable def K_f_1m := (kFun (tabOf tabL) fi_f_1m.res (kT (ofDs [tBook]) sg_f_1m []))
noncomputable def its_f_1m_2 (N : Nat) (n : Nat) : St → Option Book := fun S' => iter [] (annAt fi_f_1m 2) (code (E_f_1m N) (lpIn fi_f_1m.body 0 2) 2) n S' (contOf (E_f_1m N) fi_f_1m.body 0 2 K_f_1m)
noncomputable def it_f_1m_2 (N : Nat) (b : Book) (r : List Foe) (r_1 : List Txt) (t2c4 : Int) (out3c1a : List Spot) (t37 : Int) (n : Nat) : Int → (List Part) → Option Book := fun t38 out3c3a => its_f_1m_2 N n (S_f_1m_2 b r r_1 t2c4 out3c1a t37 t38 out3c3a)
theorem fe_f_1m_2 (N : Nat) : it_f_1m_2 N = f_1m_2 N := funext fun b => funext fun r => funext fun r_1 => funext fun t2c4 => funext fun out3c1a => funext fun t37 => funext (lp_all (by kernel_rfl) fun n => by
    show _ = f_1m_2r N b r r_1 t2c4 out3c1a t37 (it_f_1m_2 N b r r_1 t2c4 out3c1a t37 n)
    kernel_rfl)
noncomputable def its_f_1m_0 (N : Nat) (n : Nat) : St → Option Book := fun S' => iter [] (annAt fi_f_1m 0) (code (E_f_1m N) (lpIn fi_f_1m.body 0 0) 0) n S' (contOf (E_f_1m N) fi_f_1m.body 0 0 K_f_1m)
noncomputable def it_f_1m_0 (N : Nat) (b : Book) (r : List Foe) (r_1 : List Txt) (t19 : Int) (t2c4 : Int) (n : Nat) : Int → (List Spot) → Option Book := fun t20 out3c1a => its_f_1m_0 N n (S_f_1m_0 b r r_1 t19 t2c4 t20 out3c1a)
theorem fe_f_1m_0 (N : Nat) : it_f_1m_0 N = f_1m_0 N := funext fun b => funext fun r => funext fun r_1 => funext fun t19 => funext fun t2c4 => funext (lp_all (by kernel_rfl) fun n => by
    show _ = f_1m_0r N (f_1m_2 N) b r r_1 t19 t2c4 (it_f_1m_0 N b r r_1 t19 t2c4 n)
    rw [show f_1m_2 N = it_f_1m_2 N from (fe_f_1m_2 N).symm]
    kernel_rfl)
theorem run_f_1m (N : Nat) (b : (List ((List UInt8) × (List UInt8))) × ((List ((List UInt8) × ((Int) × ((Int) × ((Int) × (List Txt)))))) × ((List Txt) × ((List (((Int) × ((Int) × ((List Txt) × ((List ((List UInt8) × ((Int) × (Int)))) × ((List Txt) × (List Txt)))))) × (Bool))) × (Int))))) : runST (ofDs [tBook]) (tabOf tabL) (tabS (phiL_f_1m N)) inl0 N fi_f_1m sg_f_1m [⟨tBook, b⟩] = F.f_1m N b := by
    show _ = F.f_1mb N (F.f_1m_0 N) b
    rw [← fe_f_1m_0 N]
    kernel_rfl
def sm_f_1m (N : Nat) : Summ := summOf [.d tBook true] false [.own tBook true [(106, none), (34, (some [9])), (9, none), (94, (some [9, 82, 9, 9]))]] [tBook] (F.f_1m N)
theorem con_f_1m (N : Nat) : Contract Tryz.prog 56 (sm_f_1m N) := con_of (N := N) tabOK mixed (callOK_list (l := phiL_f_1m N) (allc rfl (con_f_h N) (allc rfl (con_f_p N) (allc rfl (con_f_1n N) trivial)))) (inl0_ok _) ok_f_1m (by decide) fun b => run_f_1m N b
def an_f_e : Nat → Option Ann := fun _ => none
noncomputable def fi_f_e : FI := ⟨Tryz.f136.results.toList, bodyOf Tryz.f136.body, Tryz.f136.ntmps, an_f_e⟩
theorem ok_f_e : FnOK Tryz.prog 136 fi_f_e := ⟨⟨Tryz.f136, Tryz.func136, by kernel_rfl, rfl, rfl, by kernel_rfl⟩, by kernel_rfl⟩
def phiL_f_e (N : Nat) : List (Nat × Summ) := []
def sg_f_e : Summ := sigOf [.d tPart true, .bx tInt] true [.d (.bool) false]
theorem run_f_e (N : Nat) (p : ((Int) × ((Int) × ((List Txt) × ((List ((List UInt8) × ((Int) × (Int)))) × ((List Txt) × (List Txt)))))) × (Bool)) (p1 : Int) : runST (ofDs [.bool, tInt]) (tabOf tabL) (tabS (phiL_f_e N)) inl0 N fi_f_e sg_f_e [⟨tPart, p⟩, ⟨tInt, p1⟩] = F.f_e N p p1 := by kernel_rfl
def sm_f_e (N : Nat) : Summ := summOf [.d tPart true, .bx tInt] true [.d (.bool) false] [.bool, tInt] (F.f_e N)
theorem con_f_e (N : Nat) : Contract Tryz.prog 136 (sm_f_e N) := con_of (N := N) tabOK mixed (callOK_list (l := phiL_f_e N) trivial) (inl0_ok _) ok_f_e (by decide) fun p p1 => run_f_e N p p1
def an_f_0 : Nat → Option Ann
  | 0 => some ⟨{ fr := [(0, Dir.keep), (1, Dir.keep), (7, Dir.keep), (8, Dir.keep)], bx := [(500001, [Dir.keep])], os := [] }, [(0, { fr := [], bx := [(500001, [Dir.keep])], os := [] })], { fr := [(4, Dir.keep)], bx := [(500001, [Dir.keep])], os := [] }⟩
  | _ => none
noncomputable def fi_f_0 : FI := ⟨Tryz.f135.results.toList, bodyOf Tryz.f135.body, Tryz.f135.ntmps, an_f_0⟩
theorem ok_f_0 : FnOK Tryz.prog 135 fi_f_0 := ⟨⟨Tryz.f135, Tryz.func135, by kernel_rfl, rfl, rfl, by kernel_rfl⟩, by kernel_rfl⟩
def phiL_f_0 (N : Nat) : List (Nat × Summ) := [(136, sm_f_e N)]
def sg_f_0 : Summ := sigOf [.d (.slice tPart) false, .cl 136 [tInt]] true [.d tInt false]
def S_f_0_0 (s : List Part) (t7 : Int) (t8 : Int) (fpc0 : Int) : St := { fr := [(0, .w (.one (.v tPart.slice s))), (1, AV.w (V1.one (C.fn 136 [500001]))), (7, .w (.one (.v tInt t7))), (8, .w (.one (.v tInt t8)))], H := [(500001, Ob.box [C.v tInt fpc0])] }
noncomputable def E_f_0 (N : Nat) : Env := envOf (tabOf tabL) (tabS (phiL_f_0 N)) inl0 N fi_f_0 [500001]
noncomputable def K_f_0 := (kFun (tabOf tabL) fi_f_0.res (kT (ofDs [tInt, tInt]) sg_f_0 [(500001, .bx tInt)]))
noncomputable def its_f_0_0 (N : Nat) (n : Nat) : St → Option (Int × Int) := fun S' => iter [500001] (annAt fi_f_0 0) (code (E_f_0 N) (lpIn fi_f_0.body 0 0) 0) n S' (contOf (E_f_0 N) fi_f_0.body 0 0 K_f_0)
noncomputable def it_f_0_0 (N : Nat) (s : List Part) (t7 : Int) (n : Nat) : Int → Int → Option (Int × Int) := fun t8 fpc0 => its_f_0_0 N n (S_f_0_0 s t7 t8 fpc0)
theorem fe_f_0_0 (N : Nat) : it_f_0_0 N = f_0_0 N := funext fun s => funext fun t7 => funext (lp_all (by kernel_rfl) fun n => by
    show _ = f_0_0r N s t7 (it_f_0_0 N s t7 n)
    kernel_rfl)
theorem run_f_0 (N : Nat) (s : List (((Int) × ((Int) × ((List Txt) × ((List ((List UInt8) × ((Int) × (Int)))) × ((List Txt) × (List Txt)))))) × (Bool))) (p1 : Int) : runST (ofDs [tInt, tInt]) (tabOf tabL) (tabS (phiL_f_0 N)) inl0 N fi_f_0 sg_f_0 [⟨.slice tPart, s⟩, ⟨tInt, p1⟩] = F.f_0 N s p1 := by
    show _ = F.f_0b N (F.f_0_0 N) s p1
    rw [← fe_f_0_0 N]
    kernel_rfl
def sm_f_0 (N : Nat) : Summ := summOf [.d (.slice tPart) false, .cl 136 [tInt]] true [.d tInt false] [tInt, tInt] (F.f_0 N)
theorem con_f_0 (N : Nat) : Contract Tryz.prog 135 (sm_f_0 N) := con_of (N := N) tabOK mixed (callOK_list (l := phiL_f_0 N) (allc rfl (con_f_e N) trivial)) (inl0_ok _) ok_f_0 (by decide) fun s p1 => run_f_0 N s p1
def an_f_n : Nat → Option Ann := fun _ => none
noncomputable def fi_f_n : FI := ⟨Tryz.f57.results.toList, bodyOf Tryz.f57.body, Tryz.f57.ntmps, an_f_n⟩
theorem ok_f_n : FnOK Tryz.prog 57 fi_f_n := ⟨⟨Tryz.f57, Tryz.func57, by kernel_rfl, rfl, rfl, by kernel_rfl⟩, by kernel_rfl⟩
def phiL_f_n (N : Nat) : List (Nat × Summ) := [(13700135, sm_f_0 N)]
def sg_f_n : Summ := sigOf [.d tBook true, .d tInt false] false [.d tInt false]
theorem run_f_n (N : Nat) (b : (List ((List UInt8) × (List UInt8))) × ((List ((List UInt8) × ((Int) × ((Int) × ((Int) × (List Txt)))))) × ((List Txt) × ((List (((Int) × ((Int) × ((List Txt) × ((List ((List UInt8) × ((Int) × (Int)))) × ((List Txt) × (List Txt)))))) × (Bool))) × (Int))))) (number : Int) : runST (ofDs [tInt]) (tabOf tabL) (tabS (phiL_f_n N)) inl0 N fi_f_n sg_f_n [⟨tBook, b⟩, ⟨tInt, number⟩] = F.f_n N b number := by kernel_rfl
def sm_f_n (N : Nat) : Summ := summOf [.d tBook true, .d tInt false] false [.d tInt false] [tInt] (F.f_n N)
theorem con_f_n (N : Nat) : Contract Tryz.prog 57 (sm_f_n N) := con_of (N := N) tabOK mixed (callOK_list (l := phiL_f_n N) (allc rfl (con_f_0 N) trivial)) (inl0_ok _) ok_f_n (by decide) fun b number => run_f_n N b number
def an_f_18 : Nat → Option Ann := fun _ => none
noncomputable def fi_f_18 : FI := ⟨Tryz.f12.results.toList, bodyOf Tryz.f12.body, Tryz.f12.ntmps, an_f_18⟩
theorem ok_f_18 : FnOK Tryz.prog 12 fi_f_18 := ⟨⟨Tryz.f12, Tryz.func12, by kernel_rfl, rfl, rfl, by kernel_rfl⟩, by kernel_rfl⟩
def phiL_f_18 (N : Nat) : List (Nat × Summ) := [(22, sm_f_x N), (56, sm_f_1m N), (57, sm_f_n N)]
def sg_f_18 : Summ := sigOf [.d tBook true, .d tInt false] false [.own tBook true [(106, none), (34, (some [9])), (9, none), (94, (some [9, 82, 9, 9]))], .d tInt false]
theorem run_f_18 (N : Nat) (b : (List ((List UInt8) × (List UInt8))) × ((List ((List UInt8) × ((Int) × ((Int) × ((Int) × (List Txt)))))) × ((List Txt) × ((List (((Int) × ((Int) × ((List Txt) × ((List ((List UInt8) × ((Int) × (Int)))) × ((List Txt) × (List Txt)))))) × (Bool))) × (Int))))) (number : Int) : runST (ofDs [tBook, tInt]) (tabOf tabL) (tabS (phiL_f_18 N)) inl0 N fi_f_18 sg_f_18 [⟨tBook, b⟩, ⟨tInt, number⟩] = F.f_18 N b number := by kernel_rfl
def sm_f_18 (N : Nat) : Summ := summOf [.d tBook true, .d tInt false] false [.own tBook true [(106, none), (34, (some [9])), (9, none), (94, (some [9, 82, 9, 9]))], .d tInt false] [tBook, tInt] (F.f_18 N)
theorem con_f_18 (N : Nat) : Contract Tryz.prog 12 (sm_f_18 N) := con_of (N := N) tabOK mixed (callOK_list (l := phiL_f_18 N) (allc rfl (con_f_x N) (allc rfl (con_f_1m N) (allc rfl (con_f_n N) trivial)))) (inl0_ok _) ok_f_18 (by decide) fun b number => run_f_18 N b number
def an_f_2c : Nat → Option Ann
  | 0 => some ⟨{ fr := [(0, Dir.keep), (1, Dir.keep), (5, Dir.keep)], bx := [], os := [] }, [(0, { fr := [], bx := [], os := [] })], { fr := [(4, Dir.keep)], bx := [], os := [] }⟩
  | _ => none
noncomputable def fi_f_2c : FI := ⟨Tryz.f69.results.toList, bodyOf Tryz.f69.body, Tryz.f69.ntmps, an_f_2c⟩
theorem ok_f_2c : FnOK Tryz.prog 69 fi_f_2c := ⟨⟨Tryz.f69, Tryz.func69, by kernel_rfl, rfl, rfl, by kernel_rfl⟩, by kernel_rfl⟩
def phiL_f_2c (N : Nat) : List (Nat × Summ) := []
def sg_f_2c : Summ := sigOf [.d tTxts false, .d tTxts false] false [.d (.bool) false]
def S_f_2c_0 (a : List Txt) (b : List Txt) (i5 : Int) : St := ⟨[(0, .w (.one (.v tTxts a))), (1, .w (.one (.v tTxts b))), (5, .w (.one (.v tInt i5)))], []⟩
noncomputable def E_f_2c (N : Nat) : Env := envOf (tabOf tabL) (tabS (phiL_f_2c N)) inl0 N fi_f_2c []
noncomputable def K_f_2c := (kFun (tabOf tabL) fi_f_2c.res (kT (ofDs [.bool]) sg_f_2c []))
noncomputable def its_f_2c_0 (N : Nat) (n : Nat) : St → Option Bool := fun S' => iter [] (annAt fi_f_2c 0) (code (E_f_2c N) (lpIn fi_f_2c.body 0 0) 0) n S' (contOf (E_f_2c N) fi_f_2c.body 0 0 K_f_2c)
noncomputable def it_f_2c_0 (N : Nat) (a : List Txt) (b : List Txt) (n : Nat) : Int → Option Bool := fun i5 => its_f_2c_0 N n (S_f_2c_0 a b i5)
theorem fe_f_2c_0 (N : Nat) : it_f_2c_0 N = f_2c_0 N := funext fun a => funext fun b => funext (lp_all (by kernel_rfl) fun n => by
    show _ = f_2c_0r N a b (it_f_2c_0 N a b n)
    kernel_rfl)
theorem run_f_2c (N : Nat) (a : List (List UInt8)) (b : List (List UInt8)) : runST (ofDs [.bool]) (tabOf tabL) (tabS (phiL_f_2c N)) inl0 N fi_f_2c sg_f_2c [⟨tTxts, a⟩, ⟨tTxts, b⟩] = F.f_2c N a b := by
    show _ = F.f_2cb N (F.f_2c_0 N) a b
    rw [← fe_f_2c_0 N]
    kernel_rfl
def sm_f_2c (N : Nat) : Summ := summOf [.d tTxts false, .d tTxts false] false [.d (.bool) false] [.bool] (F.f_2c N)
theorem con_f_2c (N : Nat) : Contract Tryz.prog 69 (sm_f_2c N) := con_of (N := N) tabOK mixed (callOK_list (l := phiL_f_2c N) trivial) (inl0_ok _) ok_f_2c (by decide) fun a b => run_f_2c N a b
def an_f_2x : Nat → Option Ann
  | 0 => some ⟨{ fr := [(2, Dir.keep), (3, Dir.keep), (5, Dir.keep)], bx := [(2, [Dir.keep, Dir.keep, Dir.keep, Dir.keep, Dir.keep, Dir.keep]), (3, [Dir.keep, Dir.keep, Dir.keep, Dir.keep, Dir.keep, Dir.keep])], os := [] }, [(0, { fr := [], bx := [], os := [] })], { fr := [(4, Dir.keep)], bx := [], os := [] }⟩
  | _ => none
noncomputable def fi_f_2x : FI := ⟨Tryz.f48.results.toList, bodyOf Tryz.f48.body, Tryz.f48.ntmps, an_f_2x⟩
theorem ok_f_2x : FnOK Tryz.prog 48 fi_f_2x := ⟨⟨Tryz.f48, Tryz.func48, by kernel_rfl, rfl, rfl, by kernel_rfl⟩, by kernel_rfl⟩
def phiL_f_2x (N : Nat) : List (Nat × Summ) := [(69, sm_f_2c N)]
def sg_f_2x : Summ := sigOf [.d tWant true, .d tWant true] false [.d (.bool) false]
def S_f_2x_0 (a : Want) (b : Want) (i5 : Int) : St := { fr := [(2, AV.w (V1.one (C.pb 2 0))), (3, AV.w (V1.one (C.pb 3 0))), (5, .w (.one (.v tInt i5)))], H := [(2, Ob.box [C.v tInt a.1, C.v tInt a.2.1, C.v tTxts a.2.2.1, C.v tUse.slice a.2.2.2.1, C.v tTxts a.2.2.2.2.1, C.v tTxts a.2.2.2.2.2]), (3, Ob.box [C.v tInt b.1, C.v tInt b.2.1, C.v tTxts b.2.2.1, C.v tUse.slice b.2.2.2.1, C.v tTxts b.2.2.2.2.1, C.v tTxts b.2.2.2.2.2])] }
noncomputable def E_f_2x (N : Nat) : Env := envOf (tabOf tabL) (tabS (phiL_f_2x N)) inl0 N fi_f_2x []
noncomputable def K_f_2x := (kFun (tabOf tabL) fi_f_2x.res (kT (ofDs [.bool]) sg_f_2x []))
noncomputable def its_f_2x_0 (N : Nat) (n : Nat) : St → Option Bool := fun S' => iter [] (annAt fi_f_2x 0) (code (E_f_2x N) (lpIn fi_f_2x.body 0 0) 0) n S' (contOf (E_f_2x N) fi_f_2x.body 0 0 K_f_2x)
noncomputable def it_f_2x_0 (N : Nat) (a : Want) (b : Want) (n : Nat) : Int → Option Bool := fun i5 => its_f_2x_0 N n (S_f_2x_0 a b i5)
theorem fe_f_2x_0 (N : Nat) : it_f_2x_0 N = f_2x_0 N := funext fun a => funext fun b => funext (lp_all (by kernel_rfl) fun n => by
    show _ = f_2x_0r N a b (it_f_2x_0 N a b n)
    kernel_rfl)
theorem run_f_2x (N : Nat) (a : (Int) × ((Int) × ((List Txt) × ((List ((List UInt8) × ((Int) × (Int)))) × ((List Txt) × (List Txt)))))) (b : (Int) × ((Int) × ((List Txt) × ((List ((List UInt8) × ((Int) × (Int)))) × ((List Txt) × (List Txt)))))) : runST (ofDs [.bool]) (tabOf tabL) (tabS (phiL_f_2x N)) inl0 N fi_f_2x sg_f_2x [⟨tWant, a⟩, ⟨tWant, b⟩] = F.f_2x N a b := by
    show _ = F.f_2xb N (F.f_2x_0 N) a b
    rw [← fe_f_2x_0 N]
    kernel_rfl
def sm_f_2x (N : Nat) : Summ := summOf [.d tWant true, .d tWant true] false [.d (.bool) false] [.bool] (F.f_2x N)
theorem con_f_2x (N : Nat) : Contract Tryz.prog 48 (sm_f_2x N) := con_of (N := N) tabOK mixed (callOK_list (l := phiL_f_2x N) (allc rfl (con_f_2c N) trivial)) (inl0_ok _) ok_f_2x (by decide) fun a b => run_f_2x N a b
def an_f_2u : Nat → Option Ann
  | 0 => some ⟨{ fr := [(2, Dir.keep), (3, Dir.keep), (5, Dir.keep)], bx := [(2, [Dir.keep, Dir.keep, Dir.keep, Dir.keep, Dir.keep]), (3, [Dir.keep, Dir.keep, Dir.keep, Dir.keep, Dir.keep])], os := [] }, [(0, { fr := [(2, Dir.keep), (3, Dir.keep)], bx := [(2, [Dir.keep, Dir.keep, Dir.keep, Dir.keep, Dir.keep]), (3, [Dir.keep, Dir.keep, Dir.keep, Dir.keep, Dir.keep])], os := [] })], { fr := [(4, Dir.keep)], bx := [], os := [] }⟩
  | 2 => some ⟨{ fr := [(2, Dir.keep), (3, Dir.keep), (6, Dir.keep)], bx := [(2, [Dir.keep, Dir.keep, Dir.keep, Dir.keep, Dir.keep]), (3, [Dir.keep, Dir.keep, Dir.keep, Dir.keep, Dir.keep])], os := [] }, [(2, { fr := [(2, Dir.keep), (3, Dir.keep)], bx := [(2, [Dir.keep, Dir.keep, Dir.keep, Dir.keep, Dir.keep]), (3, [Dir.keep, Dir.keep, Dir.keep, Dir.keep, Dir.keep])], os := [] })], { fr := [(4, Dir.keep)], bx := [], os := [] }⟩
  | 4 => some ⟨{ fr := [(2, Dir.keep), (3, Dir.keep), (9, Dir.keep)], bx := [(2, [Dir.keep, Dir.keep, Dir.keep, Dir.keep, Dir.keep]), (3, [Dir.keep, Dir.keep, Dir.keep, Dir.keep, Dir.keep])], os := [] }, [(4, { fr := [], bx := [], os := [] })], { fr := [(4, Dir.keep)], bx := [], os := [] }⟩
  | _ => none
noncomputable def fi_f_2u : FI := ⟨Tryz.f21.results.toList, bodyOf Tryz.f21.body, Tryz.f21.ntmps, an_f_2u⟩
theorem ok_f_2u : FnOK Tryz.prog 21 fi_f_2u := ⟨⟨Tryz.f21, Tryz.func21, by kernel_rfl, rfl, rfl, by kernel_rfl⟩, by kernel_rfl⟩
def phiL_f_2u (N : Nat) : List (Nat × Summ) := [(69, sm_f_2c N), (48, sm_f_2x N)]
def sg_f_2u : Summ := sigOf [.d tBook true, .d tBook true] false [.d (.bool) false]
def S_f_2u_4 (a : Book) (b : Book) (i9 : Int) : St := { fr := [(2, AV.w (V1.one (C.pb 2 0))), (3, AV.w (V1.one (C.pb 3 0))), (9, .w (.one (.v tInt i9)))], H := [(2, Ob.box [C.v tFoe.slice a.1, C.v tSpot.slice a.2.1, C.v tTxts a.2.2.1, C.v tPart.slice a.2.2.2.1, C.v tInt a.2.2.2.2]), (3, Ob.box [C.v tFoe.slice b.1, C.v tSpot.slice b.2.1, C.v tTxts b.2.2.1, C.v tPart.slice b.2.2.2.1, C.v tInt b.2.2.2.2])] }
def S_f_2u_2 (a : Book) (b : Book) (i6 : Int) : St := { fr := [(2, AV.w (V1.one (C.pb 2 0))), (3, AV.w (V1.one (C.pb 3 0))), (6, .w (.one (.v tInt i6)))], H := [(2, Ob.box [C.v tFoe.slice a.1, C.v tSpot.slice a.2.1, C.v tTxts a.2.2.1, C.v tPart.slice a.2.2.2.1, C.v tInt a.2.2.2.2]), (3, Ob.box [C.v tFoe.slice b.1, C.v tSpot.slice b.2.1, C.v tTxts b.2.2.1, C.v tPart.slice b.2.2.2.1, C.v tInt b.2.2.2.2])] }
def S_f_2u_0 (a : Book) (b : Book) (i5 : Int) : St := { fr := [(2, AV.w (V1.one (C.pb 2 0))), (3, AV.w (V1.one (C.pb 3 0))), (5, .w (.one (.v tInt i5)))], H := [(2, Ob.box [C.v tFoe.slice a.1, C.v tSpot.slice a.2.1, C.v tTxts a.2.2.1, C.v tPart.slice a.2.2.2.1, C.v tInt a.2.2.2.2]), (3, Ob.box [C.v tFoe.slice b.1, C.v tSpot.slice b.2.1, C.v tTxts b.2.2.1, C.v tPart.slice b.2.2.2.1, C.v tInt b.2.2.2.2])] }
noncomputable def E_f_2u (N : Nat) : Env := envOf (tabOf tabL) (tabS (phiL_f_2u N)) inl0 N fi_f_2u []
noncomputable def K_f_2u := (kFun (tabOf tabL) fi_f_2u.res (kT (ofDs [.bool]) sg_f_2u []))
noncomputable def its_f_2u_4 (N : Nat) (n : Nat) : St → Option Bool := fun S' => iter [] (annAt fi_f_2u 4) (code (E_f_2u N) (lpIn fi_f_2u.body 0 4) 4) n S' (contOf (E_f_2u N) fi_f_2u.body 0 4 K_f_2u)
noncomputable def it_f_2u_4 (N : Nat) (a : Book) (b : Book) (n : Nat) : Int → Option Bool := fun i9 => its_f_2u_4 N n (S_f_2u_4 a b i9)
theorem fe_f_2u_4 (N : Nat) : it_f_2u_4 N = f_2u_4 N := funext fun a => funext fun b => funext (lp_all (by kernel_rfl) fun n => by
    show _ = f_2u_4r N a b (it_f_2u_4 N a b n)
    kernel_rfl)
noncomputable def its_f_2u_2 (N : Nat) (n : Nat) : St → Option Bool := fun S' => iter [] (annAt fi_f_2u 2) (code (E_f_2u N) (lpIn fi_f_2u.body 0 2) 2) n S' (contOf (E_f_2u N) fi_f_2u.body 0 2 K_f_2u)
noncomputable def it_f_2u_2 (N : Nat) (a : Book) (b : Book) (n : Nat) : Int → Option Bool := fun i6 => its_f_2u_2 N n (S_f_2u_2 a b i6)
theorem fe_f_2u_2 (N : Nat) : it_f_2u_2 N = f_2u_2 N := funext fun a => funext fun b => funext (lp_all (by kernel_rfl) fun n => by
    show _ = f_2u_2r N (f_2u_4 N) a b (it_f_2u_2 N a b n)
    rw [show f_2u_4 N = it_f_2u_4 N from (fe_f_2u_4 N).symm]
    kernel_rfl)
noncomputable def its_f_2u_0 (N : Nat) (n : Nat) : St → Option Bool := fun S' => iter [] (annAt fi_f_2u 0) (code (E_f_2u N) (lpIn fi_f_2u.body 0 0) 0) n S' (contOf (E_f_2u N) fi_f_2u.body 0 0 K_f_2u)
noncomputable def it_f_2u_0 (N : Nat) (a : Book) (b : Book) (n : Nat) : Int → Option Bool := fun i5 => its_f_2u_0 N n (S_f_2u_0 a b i5)
theorem fe_f_2u_0 (N : Nat) : it_f_2u_0 N = f_2u_0 N := funext fun a => funext fun b => funext (lp_all (by kernel_rfl) fun n => by
    show _ = f_2u_0r N (f_2u_2 N) a b (it_f_2u_0 N a b n)
    rw [show f_2u_2 N = it_f_2u_2 N from (fe_f_2u_2 N).symm]
    kernel_rfl)
theorem run_f_2u (N : Nat) (a : (List ((List UInt8) × (List UInt8))) × ((List ((List UInt8) × ((Int) × ((Int) × ((Int) × (List Txt)))))) × ((List Txt) × ((List (((Int) × ((Int) × ((List Txt) × ((List ((List UInt8) × ((Int) × (Int)))) × ((List Txt) × (List Txt)))))) × (Bool))) × (Int))))) (b : (List ((List UInt8) × (List UInt8))) × ((List ((List UInt8) × ((Int) × ((Int) × ((Int) × (List Txt)))))) × ((List Txt) × ((List (((Int) × ((Int) × ((List Txt) × ((List ((List UInt8) × ((Int) × (Int)))) × ((List Txt) × (List Txt)))))) × (Bool))) × (Int))))) : runST (ofDs [.bool]) (tabOf tabL) (tabS (phiL_f_2u N)) inl0 N fi_f_2u sg_f_2u [⟨tBook, a⟩, ⟨tBook, b⟩] = F.f_2u N a b := by
    show _ = F.f_2ub N (F.f_2u_0 N) a b
    rw [← fe_f_2u_0 N]
    kernel_rfl
def sm_f_2u (N : Nat) : Summ := summOf [.d tBook true, .d tBook true] false [.d (.bool) false] [.bool] (F.f_2u N)
theorem con_f_2u (N : Nat) : Contract Tryz.prog 21 (sm_f_2u N) := con_of (N := N) tabOK mixed (callOK_list (l := phiL_f_2u N) (allc rfl (con_f_2c N) (allc rfl (con_f_2x N) trivial))) (inl0_ok _) ok_f_2u (by decide) fun a b => run_f_2u N a b
def an_f_2t : Nat → Option Ann
  | 0 => some ⟨{ fr := [(9, Dir.keep), (10, Dir.keep), (11, Dir.keep), (12, Dir.keep), (15, Dir.keep)], bx := [(9, [Dir.keep, Dir.keep, Dir.keep, Dir.keep, Dir.keep]), (11, [Dir.own 1001100 106 tFoe, Dir.dow 1001101 34 [9] tSpot, Dir.own 1001102 9 Ty.str, Dir.dow 1001103 94 [9, 82, 9, 9] tPart, Dir.keep])], os := [] }, [(0, { fr := [], bx := [], os := [] })], { fr := [(4, Dir.keep)], bx := [], os := [] }⟩
  | _ => none
noncomputable def fi_f_2t : FI := ⟨Tryz.f5.results.toList, bodyOf Tryz.f5.body, Tryz.f5.ntmps, an_f_2t⟩
theorem ok_f_2t : FnOK Tryz.prog 5 fi_f_2t := ⟨⟨Tryz.f5, Tryz.func5, by kernel_rfl, rfl, rfl, by kernel_rfl⟩, by kernel_rfl⟩
def phiL_f_2t (N : Nat) : List (Nat × Summ) := [(29, sm_f_w N), (30, sm_f_1l N), (31, sm_f_17 N), (32, sm_f_1p N), (34, sm_f_1d N), (33, sm_f_2v N), (18, sm_f_2w N), (35, sm_f_36 N), (36, sm_f_s N), (12, sm_f_18 N), (13, sm_f_1e N), (21, sm_f_2u N)]
def sg_f_2t : Summ := sigOf [.d (.slice tByte) false, .d (.slice tByte) false] false [.d (.bool) false]
def S_f_2t_0 (k10 : Int) (c12 : Int) (d9c0 : List Foe) (d9c1 : List Spot) (d9c2 : List Txt) (d9c3 : List Part) (d9c4 : Int) (x11c4 : Int) (x11c0a : List Foe) (x11c1a : List Spot) (x11c2a : List Txt) (x11c3a : List Part) (i15 : Int) : St := { fr := [(9, AV.w (V1.one (C.pb 9 0))), (10, .w (.one (.v tInt k10))), (11, AV.w (V1.one (C.pb 11 0))), (12, .w (.one (.v tInt c12))), (15, .w (.one (.v tInt i15)))], H := [(9, Ob.box [C.v tFoe.slice d9c0, C.v tSpot.slice d9c1, C.v tTxts d9c2, C.v tPart.slice d9c3, C.v tInt d9c4]), (11, Ob.box [C.arr 1001100, C.arr 1001101, C.arr 1001102, C.arr 1001103, C.v tInt x11c4]), (1001100, Ob.arr 106 tFoe x11c0a), (1001101, Ob.arr 34 tSpot x11c1a (Dp.yes [9])), (1001102, Ob.arr 9 Ty.str x11c2a), (1001103, Ob.arr 94 tPart x11c3a (Dp.yes [9, 82, 9, 9]))] }
noncomputable def E_f_2t (N : Nat) : Env := envOf (tabOf tabL) (tabS (phiL_f_2t N)) inl0 N fi_f_2t []
noncomputable def K_f_2t := (kFun (tabOf tabL) fi_f_2t.res (kT (ofDs [.bool]) sg_f_2t []))
noncomputable def its_f_2t_0 (N : Nat) (n : Nat) : St → Option Bool := fun S' => iter [] (annAt fi_f_2t 0) (code (E_f_2t N) (lpIn fi_f_2t.body 0 0) 0) n S' (contOf (E_f_2t N) fi_f_2t.body 0 0 K_f_2t)
noncomputable def it_f_2t_0 (N : Nat) (k10 : Int) (c12 : Int) (d9c0 : List Foe) (d9c1 : List Spot) (d9c2 : List Txt) (d9c3 : List Part) (d9c4 : Int) (x11c4 : Int) (x11c0a : List Foe) (x11c1a : List Spot) (x11c2a : List Txt) (x11c3a : List Part) (n : Nat) : Int → Option Bool := fun i15 => its_f_2t_0 N n (S_f_2t_0 k10 c12 d9c0 d9c1 d9c2 d9c3 d9c4 x11c4 x11c0a x11c1a x11c2a x11c3a i15)
theorem fe_f_2t_0 (N : Nat) : it_f_2t_0 N = f_2t_0 N := funext fun k10 => funext fun c12 => funext fun d9c0 => funext fun d9c1 => funext fun d9c2 => funext fun d9c3 => funext fun d9c4 => funext fun x11c4 => funext fun x11c0a => funext fun x11c1a => funext fun x11c2a => funext fun x11c3a => funext (lp_all (by kernel_rfl) fun n => by
    show _ = f_2t_0r N k10 c12 d9c0 d9c1 d9c2 d9c3 d9c4 x11c4 x11c0a x11c1a x11c2a x11c3a (it_f_2t_0 N k10 c12 d9c0 d9c1 d9c2 d9c3 d9c4 x11c4 x11c0a x11c1a x11c2a x11c3a n)
    kernel_rfl)
theorem run_f_2t (N : Nat) (code : List (Int)) (more : List (Int)) : runST (ofDs [.bool]) (tabOf tabL) (tabS (phiL_f_2t N)) inl0 N fi_f_2t sg_f_2t [⟨.slice tByte, code⟩, ⟨.slice tByte, more⟩] = F.f_2t N code more := by
    show _ = F.f_2tb N (F.f_2t_0 N) code more
    rw [← fe_f_2t_0 N]
    kernel_rfl
def sm_f_2t (N : Nat) : Summ := summOf [.d (.slice tByte) false, .d (.slice tByte) false] false [.d (.bool) false] [.bool] (F.f_2t N)
theorem con_f_2t (N : Nat) : Contract Tryz.prog 5 (sm_f_2t N) := con_of (N := N) tabOK mixed (callOK_list (l := phiL_f_2t N) (allc rfl (con_f_w N) (allc rfl (con_f_1l N) (allc rfl (con_f_17 N) (allc rfl (con_f_1p N) (allc rfl (con_f_1d N) (allc rfl (con_f_2v N) (allc rfl (con_f_2w N) (allc rfl (con_f_36 N) (allc rfl (con_f_s N) (allc rfl (con_f_18 N) (allc rfl (con_f_1e N) (allc rfl (con_f_2u N) trivial))))))))))))) (inl0_ok _) ok_f_2t (by decide) fun code more => run_f_2t N code more
end
end Go.MC

set_option linter.unusedVariables false
set_option linter.unusedSimpArgs false
namespace Go.MC
theorem lim_eq : lim = 140737488355328 := rfl
theorem wr {n : Int} (h1 : -9223372036854775808 ≤ n) (h2 : n ≤ 9223372036854775807) : IntKind.i64.wrap n = n := by
  rw [IntKind.wrap_i64]; omega
theorem wrS {i : Nat} (h : i ≤ 1000000000000000000) : IntKind.i64.wrap ((i : Int) + 1) = ((i + 1 : Nat) : Int) := by
  rw [wr (by omega) (by omega)]; omega
theorem wrP {i : Nat} (h : i ≤ 1000000000000000000) (h0 : 0 < i) : IntKind.i64.wrap ((i : Int) - 1) = ((i - 1 : Nat) : Int) := by
  rw [wr (by omega) (by omega)]; omega
theorem ob_eq {α ρ : Type} {o : Option α} {a d : α} {B : α → Option ρ} (h : o = some a) : ob o d B = B a := by rw [h]; rfl
theorem dlt {i n : Nat} (h : i < n) : decide ((i : Int) < (n : Int)) = true := decide_eq_true (by omega)
theorem dnlt (n : Nat) : decide ((n : Int) < (n : Int)) = false := decide_eq_false (by omega)
theorem dge (i : Nat) : decide ((0 : Int) ≤ (i : Int)) = true := decide_eq_true (by omega)
theorem gAt {α : Type} {l : List α} {i : Nat} (h : i < l.length) (d : α) : l.getD (Int.toNat (i : Int)) d = l[i] := by
  rw [Int.toNat_natCast, List.getD_eq_getElem?_getD, List.getElem?_eq_getElem h]; rfl
theorem gAt' {α : Type} {l : List α} {i : Nat} (d : α) : l.getD (Int.toNat (i : Int)) d = l.getD i d := by
  rw [Int.toNat_natCast]
theorem dgt0 (i : Nat) : decide ((i : Int) > 0) = !(i == 0) := by
  cases i <;> simp
def allI {α : Type} (p : Nat → α → Bool) : Nat → List α → Bool
  | _, [] => true
  | i, x :: xs => p i x && allI p (i + 1) xs
theorem allI_iff {α : Type} {p : Nat → α → Bool} : ∀ {l : List α} {i : Nat}, allI p i l = true ↔ ∀ j x, l[j]? = some x → p (i + j) x = true
  | [], i => by simp [allI]
  | x :: xs, i => by
    simp only [allI, Bool.and_eq_true, allI_iff (l := xs)]
    constructor
    · rintro ⟨h1, h2⟩ j y hj
      cases j with
      | zero => simp at hj; subst hj; exact h1
      | succ j =>
        have := h2 j y (by simpa using hj)
        rwa [show i + 1 + j = i + (j + 1) by omega] at this
    · intro h
      refine ⟨h 0 x rfl, fun j y hj => ?_⟩
      have := h (j + 1) y (by simpa using hj)
      rwa [show i + (j + 1) = i + 1 + j by omega] at this
theorem allI_all {α : Type} {p : α → Bool} : ∀ {l : List α} {i : Nat}, allI (fun _ x => p x) i l = l.all p
  | [], _ => rfl
  | x :: xs, i => by simp only [allI, List.all_cons, allI_all]
def outW {σ ρ : Type} (fin : σ → Option ρ) : σ ⊕ Option ρ → Option ρ
  | .inl s => fin s
  | .inr r => r
theorem lp_walk {α σ ρ F : Type} (l : List α) (ap : F → Nat → σ → Option ρ) (z : F) (rd : F → F) (f : Nat → σ → α → σ ⊕ Option ρ) (fin : σ → Option ρ) (Inv : Nat → σ → Prop)
    (hstep : ∀ (g : F) (i : Nat) (st : σ) (h : i < l.length), Inv i st → ap (rd g) i st = outW (fun st' => ap g (i + 1) st') (f i st l[i]) ∧ ∀ st', f i st l[i] = .inl st' → Inv (i + 1) st')
    (hend : ∀ (g : F) (st : σ), Inv l.length st → ap (rd g) l.length st = fin st) (N : Nat) (hN : l.length < N) (st : σ) (h0 : Inv 0 st) :
    ap (lp z rd N) 0 st = outW fin (walkL f 0 l st) := by
  suffices H : ∀ (m i n : Nat) (st : σ), l.length - i = m → i ≤ l.length → m < n → Inv i st → ap (lp z rd n) i st = outW fin (walkL f i (l.drop i) st) by
    have := H l.length 0 N st (by omega) (by omega) hN h0
    rwa [List.drop_zero] at this
  intro m
  induction m with
  | zero =>
    intro i n st h1 h2 h3 h4
    obtain ⟨n, rfl⟩ : ∃ j, n = j + 1 := ⟨n - 1, by omega⟩
    have hi : i = l.length := by omega
    subst hi
    rw [List.drop_length]
    exact hend _ st h4
  | succ m ih =>
    intro i n st h1 h2 h3 h4
    obtain ⟨n, rfl⟩ : ∃ j, n = j + 1 := ⟨n - 1, by omega⟩
    have hlt : i < l.length := by omega
    obtain ⟨h5, h6⟩ := hstep (lp z rd n) i st hlt h4
    rw [List.drop_eq_getElem_cons hlt]
    simp only [walkL]
    refine h5.trans ?_
    cases hf : f i st l[i] with
    | inl st' => exact ih (i + 1) n st' (by omega) (by omega) (by omega) (h6 st' hf)
    | inr r => rfl
theorem lp_allI {α ρ : Type} (l : List α) (rd : (Int → Option ρ) → Int → Option ρ) (p : Nat → α → Bool) (r fin : Option ρ)
    (hstep : ∀ (g : Int → Option ρ) (i : Nat) (h : i < l.length), rd g (i : Int) = bif p i l[i] then g ((i + 1 : Nat) : Int) else r)
    (hend : ∀ (g : Int → Option ρ), rd g (l.length : Int) = fin) (N : Nat) (hN : l.length < N) : lp (fun _ => none) rd N 0 = bif allI p 0 l then fin else r := by
  have := lp_walk l (fun (g : Int → Option ρ) i (_ : Unit) => g (i : Int)) (fun _ => none) rd (fun i _ x => bif p i x then .inl () else .inr r) (fun _ => fin) (fun _ _ => True)
    (fun g i st h _ => ⟨by
      rw [hstep g i h]
      cases p i l[i] <;> rfl, fun _ _ => trivial⟩) (fun g _ _ => hend g) N hN () trivial
  refine this.trans ?_
  have : ∀ (l : List α) i, outW (fun _ => fin) (walkL (fun i (_ : Unit) x => bif p i x then Sum.inl () else Sum.inr r) i l ()) = bif allI p i l then fin else r := by
    intro l
    induction l with
    | nil => intro i; rfl
    | cons x xs ih =>
      intro i
      simp only [walkL, allI]
      cases p i x with
      | true => simpa using ih (i + 1)
      | false => rfl
  exact this l 0
end Go.MC

set_option linter.unusedVariables false
set_option linter.unusedSimpArgs false
namespace Go.MC
open Go.MC.F
def smT (s : Txt) : Prop := s.length ≤ 1048576
def smL (l : List Txt) : Prop := l.length ≤ 1048576 ∧ ∀ x ∈ l, smT x
def smU (u : Use) : Prop := smT u.1
def smW (w : Want) : Prop := smL w.2.2.1 ∧ (w.2.2.2.1.length ≤ 1048576 ∧ ∀ u ∈ w.2.2.2.1, smU u) ∧ smL w.2.2.2.2.1 ∧ smL w.2.2.2.2.2
def inB (n lo hi : Int) : Bool := decide (n ≥ lo) && decide (n ≤ hi)
theorem l1In {N : Nat} (n lo hi : Int) : f_37 N n lo hi = some (inB n lo hi) := by
  unfold f_37 inB
  cases decide (n ≥ lo) <;> rfl
theorem implIn {N : Nat} (n lo hi : Int) : f_39 N n lo hi = some (inB n lo hi) := by
  unfold f_39 inB
  cases decide (n ≥ lo) <;> rfl
def nmB (b : UInt8) : Bool := (decide ((b.toNat : Int) ≥ 97) && decide ((b.toNat : Int) ≤ 122)) || ((decide ((b.toNat : Int) ≥ 48) && decide ((b.toNat : Int) ≤ 57)) || ((b.toNat : Int) == 45))
def nmOk (s : Txt) : Bool := inB s.length 1 8 && s.all nmB
theorem l1NameOk {N : Nat} (hN : lim < N) (s : Txt) : f_1q N s = some (nmOk s) := by
  have hlim := lim_eq
  unfold f_1q f_1qb nmOk
  rw [ob_eq (l1In _ _ _)]
  cases hb : inB s.length 1 8 with
  | false => rfl
  | true =>
    have hl : s.length ≤ 8 := by
      simp only [inB, Bool.and_eq_true, decide_eq_true_eq] at hb
      omega
    refine (lp_allI s _ (fun _ x => nmB x) (some false) (some true) (fun g i hi => ?_) (fun g => ?_) N (by omega)).trans ?_
    · unfold f_1q_0r
      simp only [dlt hi, dge, gAt hi, cond_true, wrS (show i ≤ 1000000000000000000 by omega), nmB]
      generalize decide ((s[i].toNat : Int) ≥ 97) = a1
      generalize decide ((s[i].toNat : Int) ≤ 122) = a2
      generalize decide ((s[i].toNat : Int) ≥ 48) = a3
      generalize decide ((s[i].toNat : Int) ≤ 57) = a4
      generalize ((s[i].toNat : Int) == 45) = a5
      cases a1 <;> cases a2 <;> cases a3 <;> cases a4 <;> cases a5 <;> rfl
    · unfold f_1q_0r
      rw [dnlt]; rfl
    · rw [allI_all]
      cases s.all nmB <;> rfl
theorem implName {N : Nat} (hN : lim < N) (s : Txt) : f_34 N s = some (nmOk s) := by
  have hlim := lim_eq
  unfold f_34 f_34b nmOk
  rw [ob_eq (implIn _ _ _)]
  cases hb : inB s.length 1 8 with
  | false => rfl
  | true =>
    have hl : s.length ≤ 8 := by
      simp only [inB, Bool.and_eq_true, decide_eq_true_eq] at hb
      omega
    refine (lp_allI s _ (fun _ x => nmB x) (some false) (some true) (fun g i hi => ?_) (fun g => ?_) N (by omega)).trans ?_
    · unfold f_34_0r
      simp only [dlt hi, dge, gAt hi, cond_true, wrS (show i ≤ 1000000000000000000 by omega), nmB]
      generalize decide ((s[i].toNat : Int) ≥ 97) = a1
      generalize decide ((s[i].toNat : Int) ≤ 122) = a2
      generalize decide ((s[i].toNat : Int) ≥ 48) = a3
      generalize decide ((s[i].toNat : Int) ≤ 57) = a4
      generalize ((s[i].toNat : Int) == 45) = a5
      cases a1 <;> cases a2 <;> cases a3 <;> cases a4 <;> cases a5 <;> rfl
    · unfold f_34_0r
      rw [dnlt]; rfl
    · rw [allI_all]
      cases s.all nmB <;> rfl
def ascI (l : List Txt) (i : Nat) (x : Txt) : Bool := i == 0 || Op.bytesLess (l.getD (i - 1) []) x
def nmsOk (l : List Txt) (most : Int) : Bool := !decide ((l.length : Int) > most) && allI (fun i x => nmOk x && ascI l i x) 0 l
theorem l1NamesOk {N : Nat} (hN : lim < N) {l : List Txt} (hl : l.length ≤ lim) (most : Int) : f_1f N l most = some (nmsOk l most) := by
  have hlim := lim_eq
  unfold f_1f f_1fb nmsOk
  cases hb : decide ((l.length : Int) > most) with
  | true => rfl
  | false =>
    refine (lp_allI l _ (fun i x => nmOk x && ascI l i x) (some false) (some true) (fun g i hi => ?_) (fun g => ?_) N (by omega)).trans ?_
    · unfold f_1f_0r ascI
      simp only [dlt hi, dge, gAt hi, cond_true, wrS (show i ≤ 1000000000000000000 by omega), dgt0]
      rw [ob_eq (l1NameOk hN _)]
      cases nmOk l[i] with
      | false => rfl
      | true =>
        cases h0 : i == 0 with
        | true => simp
        | false =>
          have h0' : 0 < i := by simp at h0; omega
          simp only [Bool.not_true, Bool.not_false, cond_true, cond_false, wrP (show i ≤ 1000000000000000000 by omega) h0', dge, dlt (show i - 1 < l.length by omega), gAt', Bool.false_or, Bool.true_and]
          cases Op.bytesLess (l.getD (i - 1) []) l[i] <;> rfl
    · unfold f_1f_0r
      rw [dnlt]; rfl
    · cases allI (fun i x => nmOk x && ascI l i x) 0 l <;> rfl
theorem implNames {N : Nat} (hN : lim < N) {l : List Txt} (hl : l.length ≤ lim) (most : Int) : f_2r N l most = some (nmsOk l most) := by
  have hlim := lim_eq
  unfold f_2r f_2rb nmsOk
  cases hb : decide ((l.length : Int) > most) with
  | true => rfl
  | false =>
    refine (lp_allI l _ (fun i x => nmOk x && ascI l i x) (some false) (some true) (fun g i hi => ?_) (fun g => ?_) N (by omega)).trans ?_
    · unfold f_2r_0r ascI
      simp only [dlt hi, dge, gAt hi, cond_true, wrS (show i ≤ 1000000000000000000 by omega), dgt0]
      rw [ob_eq (implName hN _)]
      cases nmOk l[i] with
      | false => rfl
      | true =>
        cases h0 : i == 0 with
        | true => simp
        | false =>
          have h0' : 0 < i := by simp at h0; omega
          simp only [Bool.not_true, Bool.not_false, cond_true, cond_false, wrP (show i ≤ 1000000000000000000 by omega) h0', dge, dlt (show i - 1 < l.length by omega), gAt', Bool.false_or, Bool.true_and]
          cases Op.bytesLess (l.getD (i - 1) []) l[i] <;> rfl
    · unfold f_2r_0r
      rw [dnlt]; rfl
    · cases allI (fun i x => nmOk x && ascI l i x) 0 l <;> rfl
theorem l1Has {N : Nat} (hN : lim < N) {l : List Txt} (hl : l.length ≤ lim) (s : Txt) : f_2z N l s = some (l.contains s) := by
  have hlim := lim_eq
  unfold f_2z f_2zb
  refine (lp_allI l _ (fun _ x => !(x == s)) (some true) (some false) (fun g i hi => ?_) (fun g => ?_) N (by omega)).trans ?_
  · unfold f_2z_0r
    simp only [dlt hi, dge, gAt hi, cond_true, wrS (show i ≤ 1000000000000000000 by omega)]
    cases l[i] == s <;> rfl
  · unfold f_2z_0r
    rw [dnlt]; rfl
  · rw [allI_all, List.contains_eq_any_beq]
    have : l.all (fun x => !(x == s)) = !(l.any fun a => s == a) := by
      rw [List.not_any_eq_all_not]
      congr 1; funext x
      rw [Bool.beq_comm]
    rw [this]
    cases l.any fun a => s == a <;> rfl
theorem l1Share {N : Nat} (hN : lim < N) {a b : List Txt} (ha : a.length ≤ lim) (hb : b.length ≤ lim) : f_21 N a b = some (a.any fun x => b.contains x) := by
  have hlim := lim_eq
  unfold f_21 f_21b
  refine (lp_allI a _ (fun _ x => !(b.contains x)) (some true) (some false) (fun g i hi => ?_) (fun g => ?_) N (by omega)).trans ?_
  · unfold f_21_0r
    simp only [dlt hi, dge, gAt hi, cond_true, wrS (show i ≤ 1000000000000000000 by omega)]
    rw [ob_eq (l1Has hN hb _)]
    cases b.contains a[i] <;> rfl
  · unfold f_21_0r
    rw [dnlt]; rfl
  · rw [allI_all]
    have : a.all (fun x => !(b.contains x)) = !(a.any fun x => b.contains x) := by rw [List.not_any_eq_all_not]
    rw [this]
    cases a.any fun x => b.contains x <;> rfl
def idxB {α : Type} (p : α → Bool) : Nat → List α → Int
  | _, [] => -1
  | i, x :: xs => bif p x then (i : Int) else idxB p (i + 1) xs
theorem idxB_nonneg {α : Type} (p : α → Bool) : ∀ (l : List α) (i : Nat), decide (idxB p i l ≥ 0) = l.any p
  | [], _ => rfl
  | x :: xs, i => by
    simp only [idxB, List.any_cons]
    by_cases h : p x = true
    · simp [h]
    · simpa [h] using idxB_nonneg p xs (i + 1)
theorem lp_idx {α : Type} (l : List α) (rd : (Int → Option Int) → Int → Option Int) (p : α → Bool)
    (hstep : ∀ (g : Int → Option Int) (i : Nat) (h : i < l.length), rd g (i : Int) = bif p l[i] then some (i : Int) else g ((i + 1 : Nat) : Int))
    (hend : ∀ (g : Int → Option Int), rd g (l.length : Int) = some (-1)) (N : Nat) (hN : l.length < N) : lp (fun _ => none) rd N 0 = some (idxB p 0 l) := by
  have := lp_walk l (fun (g : Int → Option Int) i (_ : Unit) => g (i : Int)) (fun _ => none) rd (fun i _ x => bif p x then .inr (some (i : Int)) else .inl ()) (fun _ => some (-1)) (fun _ _ => True)
    (fun g i st h _ => ⟨by
      rw [hstep g i h]
      cases p l[i] <;> rfl, fun _ _ => trivial⟩) (fun g _ _ => hend g) N hN () trivial
  refine this.trans ?_
  have : ∀ (l : List α) i, outW (fun _ => some (-1)) (walkL (fun i (_ : Unit) x => bif p x then Sum.inr (some (i : Int)) else Sum.inl ()) i l ()) = some (idxB p i l) := by
    intro l
    induction l with
    | nil => intro i; rfl
    | cons x xs ih =>
      intro i
      simp only [walkL, idxB]
      cases p x with
      | false => simpa using ih (i + 1)
      | true => rfl
  exact this l 0
theorem slicesIndex {N : Nat} (hN : lim < N) {l : List Txt} (hl : l.length ≤ lim) (s : Txt) : f_r N l s = some (idxB (fun x => s == x) 0 l) := by
  have hlim := lim_eq
  unfold f_r f_rb
  refine lp_idx l _ (fun x => s == x) (fun g i hi => ?_) (fun g => ?_) N (by omega)
  · unfold f_r_0r
    simp only [dlt hi, dge, gAt hi, cond_true, wrS (show i ≤ 1000000000000000000 by omega)]
  · unfold f_r_0r
    rw [dnlt]; rfl
theorem slicesContains {N : Nat} (hN : lim < N) {l : List Txt} (hl : l.length ≤ lim) (s : Txt) : f_f N l s = some (l.contains s) := by
  unfold f_f
  rw [ob_eq (slicesIndex hN hl s), idxB_nonneg, List.contains_eq_any_beq]
theorem lp_idxC {α γ : Type} (l : List α) (rd : (Int → γ → Option (Int × γ)) → Int → γ → Option (Int × γ)) (p : α → Bool) (c : γ)
    (hstep : ∀ (g : Int → γ → Option (Int × γ)) (i : Nat) (h : i < l.length), rd g (i : Int) c = bif p l[i] then some ((i : Int), c) else g ((i + 1 : Nat) : Int) c)
    (hend : ∀ (g : Int → γ → Option (Int × γ)), rd g (l.length : Int) c = some (-1, c)) (N : Nat) (hN : l.length < N) : lp (fun _ _ => none) rd N 0 c = some (idxB p 0 l, c) := by
  have := lp_walk l (fun (g : Int → γ → Option (Int × γ)) i (d : γ) => g (i : Int) d) (fun _ _ => none) rd (fun i d x => bif p x then .inr (some ((i : Int), d)) else .inl d) (fun d => some (-1, d)) (fun _ d => d = c)
    (fun g i st h hi => ⟨by
      subst hi
      rw [hstep g i h]
      cases p l[i] <;> rfl, fun st' hs => by
      subst hi
      cases hp : p l[i] with
      | true => rw [hp] at hs; cases hs
      | false => rw [hp] at hs; cases hs; rfl⟩) (fun g d hd => by subst hd; exact hend g) N hN c rfl
  refine this.trans ?_
  have : ∀ (l : List α) i, outW (fun d => some (-1, d)) (walkL (fun i (d : γ) x => bif p x then Sum.inr (some ((i : Int), d)) else Sum.inl d) i l c) = some (idxB p i l, c) := by
    intro l
    induction l with
    | nil => intro i; rfl
    | cons x xs ih =>
      intro i
      simp only [walkL, idxB]
      cases p x with
      | false => simpa using ih (i + 1)
      | true => rfl
  exact this l 0
theorem implCommon {N : Nat} (hN : lim < N) {a b : List Txt} (ha : a.length ≤ lim) (hb : b.length ≤ lim) : f_2a N a b = some (a.any fun x => b.contains x) := by
  have hlim := lim_eq
  unfold f_2a f_9
  have h : f_c N a b = some (idxB (fun x => b.contains x) 0 a, b) := by
    unfold f_c f_cb
    refine lp_idxC a _ (fun x => b.contains x) b (fun g i hi => ?_) (fun g => ?_) N (by omega)
    · unfold f_c_0r
      simp only [dlt hi, dge, gAt hi, cond_true, wrS (show i ≤ 1000000000000000000 by omega)]
      have h1 : f_19 N a[i] b = some (b.contains a[i], b) := by
        unfold f_19
        rw [ob_eq (slicesContains hN hb _)]
      rw [ob_eq h1]
    · unfold f_c_0r
      rw [dnlt]; rfl
  rw [ob_eq (a := (a.any fun x => b.contains x, b)) (by rw [ob_eq h, idxB_nonneg])]
end Go.MC


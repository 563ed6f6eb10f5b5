/- Part 5 of the texts of the claim FnExactClaimGrant: an interpreter of the translated code over data, proved sound; the contracts of the functions; the same in plain words. -/
import Derived.Test.YtaihjhaabnfenaaGreatmFnExactClaimGrant4
import Derived.Test.YtaihjhaabnfenaaGreatmFnExactClaimGrant2
import Derived.Test.YtaihjhaabnfenaaGreatmFnExactClaimGrant3
/- The functions do what is told (behind): printed by the program tool/gen.py of this repo. -/
set_option linter.unusedVariables false
set_option maxRecDepth 100000
namespace Go.MC
open Go.Proofs Go.MC.F
noncomputable section
def an_impl_copyBook : Nat → Option Ann
  | 0 => some ⟨{ fr := [(1, Dir.keep), (2, Dir.keep), (3, Dir.keep), (18, Dir.keep), (19, Dir.keep), (20, Dir.keep)], bx := [(1, [Dir.keep, Dir.keep, Dir.keep, Dir.keep, Dir.keep]), (2, [Dir.keep, Dir.keep, Dir.keep, Dir.keep, Dir.keep]), (3, [Dir.own 1000300 106 tFoe, Dir.dow 1000301 34 [9] tSpot, Dir.own 1000302 9 Ty.str, Dir.keep, Dir.keep])], os := [] }, [(0, { fr := [(1, Dir.keep), (2, Dir.keep), (3, Dir.keep)], bx := [(1, [Dir.keep, Dir.keep, Dir.keep, Dir.keep, Dir.keep]), (2, [Dir.keep, Dir.keep, Dir.keep, Dir.keep, Dir.keep]), (3, [Dir.own 1000300 106 tFoe, Dir.dow 1000301 34 [9] tSpot, Dir.own 1000302 9 Ty.str, Dir.keep, Dir.keep])], os := [] })], ⟨[], [], []⟩⟩
  | 2 => some ⟨{ fr := [(2, Dir.keep), (3, Dir.keep), (36, Dir.keep), (37, Dir.keep), (38, Dir.keep)], bx := [(2, [Dir.keep, Dir.keep, Dir.keep, Dir.keep, Dir.keep]), (3, [Dir.own 1000300 106 tFoe, Dir.dow 1000301 34 [9] tSpot, Dir.own 1000302 9 Ty.str, Dir.dow 1000303 94 [9, 82, 9, 9] tPart, Dir.keep])], os := [] }, [(2, { fr := [(2, Dir.keep), (3, Dir.keep)], bx := [(2, [Dir.keep, Dir.keep, Dir.keep, Dir.keep, Dir.keep]), (3, [Dir.own 1000300 106 tFoe, Dir.dow 1000301 34 [9] tSpot, Dir.own 1000302 9 Ty.str, Dir.dow 1000303 94 [9, 82, 9, 9] tPart, Dir.keep])], os := [] })], ⟨[], [], []⟩⟩
  | _ => none
noncomputable def fi_impl_copyBook : FI := ⟨Tryz.f56.results.toList, bodyOf Tryz.f56.body, Tryz.f56.ntmps, an_impl_copyBook⟩
theorem ok_impl_copyBook : FnOK Tryz.prog 56 fi_impl_copyBook := ⟨⟨Tryz.f56, Tryz.func56, by kernel_rfl, rfl, rfl, by kernel_rfl⟩, by kernel_rfl⟩
def phiL_impl_copyBook (N : Nat) : List (Nat × Summ) := [(133, sm_slices_Clone_ClaimFoe N), (134, sm_slices_Clone_string N), (65, sm_impl_copyWant N)]
def sg_impl_copyBook : Summ := sigOf [.d tBook true] false [.own tBook true [(106, none), (34, (some [9])), (9, none), (94, (some [9, 82, 9, 9]))]]
def S_impl_copyBook_2 (b : Book) (r : List Foe) (r_1 : List Txt) (t2c4 : Int) (out3c1a : List Spot) (t37 : Int) (t38 : Int) (out3c3a : List Part) : St := { fr := [(2, AV.w (V1.one (C.pb 2 0))), (3, AV.w (V1.one (C.pb 3 0))), (36, AV.w (V1.one (C.v tPart.slice b.2.2.2.1))), (37, AV.w (V1.one (C.v tInt t37))), (38, AV.w (V1.one (C.v tInt t38)))], H := [(2, Ob.box [C.emp, C.emp, C.emp, C.emp, C.v tInt t2c4]), (3, Ob.box [C.arr 1000300, C.arr 1000301, C.arr 1000302, C.arr 1000303, C.v tInt b.2.2.2.2]), (1000300, Ob.arr 106 tFoe r), (1000301, Ob.arr 34 tSpot out3c1a (Dp.yes [9])), (1000302, Ob.arr 9 Ty.str r_1), (1000303, Ob.arr 94 tPart out3c3a (Dp.yes [9, 82, 9, 9]))] }
def S_impl_copyBook_0 (b : Book) (r : List Foe) (r_1 : List Txt) (t19 : Int) (t2c4 : Int) (t20 : Int) (out3c1a : List Spot) : St := { fr := [(1, AV.w (V1.one (C.pb 1 0))), (2, AV.w (V1.one (C.pb 2 0))), (3, AV.w (V1.one (C.pb 3 0))), (18, AV.w (V1.one (C.v tSpot.slice b.2.1))), (19, AV.w (V1.one (C.v tInt t19))), (20, AV.w (V1.one (C.v tInt t20)))], H := [(1, Ob.box [C.v tFoe.slice b.1, C.v tSpot.slice b.2.1, C.v tTxts b.2.2.1, C.v tPart.slice b.2.2.2.1, C.v tInt b.2.2.2.2]), (2, Ob.box [C.emp, C.emp, C.emp, C.emp, C.v tInt t2c4]), (3, Ob.box [C.arr 1000300, C.arr 1000301, C.arr 1000302, C.emp, C.v tInt b.2.2.2.2]), (1000300, Ob.arr 106 tFoe r), (1000301, Ob.arr 34 tSpot out3c1a (Dp.yes [9])), (1000302, Ob.arr 9 Ty.str r_1)] }
noncomputable def E_impl_copyBook (N : Nat) : Env := envOf (tabOf tabL) (tabS (phiL_impl_copyBook N)) inl0 N fi_impl_copyBook []
noncomputable def K_impl_copyBook := (kFun (tabOf tabL) fi_impl_copyBook.res (kT (ofDs [tBook]) sg_impl_copyBook []))
noncomputable def its_impl_copyBook_2 (N : Nat) (n : Nat) : St → Option Book := fun S' => iter [] (annAt fi_impl_copyBook 2) (code (E_impl_copyBook N) (lpIn fi_impl_copyBook.body 0 2) 2) n S' (contOf (E_impl_copyBook N) fi_impl_copyBook.body 0 2 K_impl_copyBook)
noncomputable def it_impl_copyBook_2 (N : Nat) (b : Book) (r : List Foe) (r_1 : List Txt) (t2c4 : Int) (out3c1a : List Spot) (t37 : Int) (n : Nat) : Int → (List Part) → Option Book := fun t38 out3c3a => its_impl_copyBook_2 N n (S_impl_copyBook_2 b r r_1 t2c4 out3c1a t37 t38 out3c3a)
theorem fe_impl_copyBook_2 (N : Nat) : it_impl_copyBook_2 N = impl_copyBook_2 N := funext fun b => funext fun r => funext fun r_1 => funext fun t2c4 => funext fun out3c1a => funext fun t37 => funext (lp_all (by kernel_rfl) fun n => by
    show _ = impl_copyBook_2r N b r r_1 t2c4 out3c1a t37 (it_impl_copyBook_2 N b r r_1 t2c4 out3c1a t37 n)
    kernel_rfl)
noncomputable def its_impl_copyBook_0 (N : Nat) (n : Nat) : St → Option Book := fun S' => iter [] (annAt fi_impl_copyBook 0) (code (E_impl_copyBook N) (lpIn fi_impl_copyBook.body 0 0) 0) n S' (contOf (E_impl_copyBook N) fi_impl_copyBook.body 0 0 K_impl_copyBook)
noncomputable def it_impl_copyBook_0 (N : Nat) (b : Book) (r : List Foe) (r_1 : List Txt) (t19 : Int) (t2c4 : Int) (n : Nat) : Int → (List Spot) → Option Book := fun t20 out3c1a => its_impl_copyBook_0 N n (S_impl_copyBook_0 b r r_1 t19 t2c4 t20 out3c1a)
theorem fe_impl_copyBook_0 (N : Nat) : it_impl_copyBook_0 N = impl_copyBook_0 N := funext fun b => funext fun r => funext fun r_1 => funext fun t19 => funext fun t2c4 => funext (lp_all (by kernel_rfl) fun n => by
    show _ = impl_copyBook_0r N (impl_copyBook_2 N) b r r_1 t19 t2c4 (it_impl_copyBook_0 N b r r_1 t19 t2c4 n)
    rw [show impl_copyBook_2 N = it_impl_copyBook_2 N from (fe_impl_copyBook_2 N).symm]
    kernel_rfl)
theorem run_impl_copyBook (N : Nat) (b : (List ((List UInt8) × (List UInt8))) × ((List ((List UInt8) × ((Int) × ((Int) × ((Int) × (List Txt)))))) × ((List Txt) × ((List (((Int) × ((Int) × ((List Txt) × ((List ((List UInt8) × ((Int) × (Int)))) × ((List Txt) × (List Txt)))))) × (Bool))) × (Int))))) : runST (ofDs [tBook]) (tabOf tabL) (tabS (phiL_impl_copyBook N)) inl0 N fi_impl_copyBook sg_impl_copyBook [⟨tBook, b⟩] = F.impl_copyBook N b := by
    show _ = F.impl_copyBookb N (F.impl_copyBook_0 N) b
    rw [← fe_impl_copyBook_0 N]
    kernel_rfl
def sm_impl_copyBook (N : Nat) : Summ := summOf [.d tBook true] false [.own tBook true [(106, none), (34, (some [9])), (9, none), (94, (some [9, 82, 9, 9]))]] [tBook] (F.impl_copyBook N)
theorem con_impl_copyBook (N : Nat) : Contract Tryz.prog 56 (sm_impl_copyBook N) := con_of (N := N) tabOK mixed (callOK_list (l := phiL_impl_copyBook N) (allc rfl (con_slices_Clone_ClaimFoe N) (allc rfl (con_slices_Clone_string N) (allc rfl (con_impl_copyWant N) trivial)))) (inl0_ok _) ok_impl_copyBook (by decide) fun b => run_impl_copyBook N b
def an_impl_ClaimGrant : Nat → Option Ann
  | 0 => some ⟨{ fr := [(3, Dir.keep), (4, Dir.keep), (7, Dir.keep), (47, Dir.keep), (48, Dir.keep), (49, Dir.keep)], bx := [(3, [Dir.keep, Dir.keep, Dir.keep, Dir.keep, Dir.keep, Dir.keep]), (4, [Dir.keep, Dir.keep, Dir.keep, Dir.keep, Dir.keep]), (7, [Dir.own 1000700 106 tFoe, Dir.dow 1000701 34 [9] tSpot, Dir.own 1000702 9 Ty.str, Dir.dow 1000703 94 [9, 82, 9, 9] tPart, Dir.keep])], os := [] }, [(0, { fr := [(4, Dir.keep), (7, Dir.keep)], bx := [(4, [Dir.keep, Dir.keep, Dir.keep, Dir.keep, Dir.keep]), (7, [Dir.own 1000700 106 tFoe, Dir.dow 1000701 34 [9] tSpot, Dir.own 1000702 9 Ty.str, Dir.dow 1000703 94 [9, 82, 9, 9] tPart, Dir.keep])], os := [] })], ⟨[], [], []⟩⟩
  | _ => none
noncomputable def fi_impl_ClaimGrant : FI := ⟨Tryz.f19.results.toList, bodyOf Tryz.f19.body, Tryz.f19.ntmps, an_impl_ClaimGrant⟩
theorem ok_impl_ClaimGrant : FnOK Tryz.prog 19 fi_impl_ClaimGrant := ⟨⟨Tryz.f19, Tryz.func19, by kernel_rfl, rfl, rfl, by kernel_rfl⟩, by kernel_rfl⟩
def phiL_impl_ClaimGrant (N : Nat) : List (Nat × Summ) := [(40, sm_impl_ClaimCode N), (56, sm_impl_copyBook N), (57, sm_impl_ClaimBook_part N), (65, sm_impl_copyWant N), (60, sm_impl_ClaimBook_at N), (66, sm_impl_both N)]
def sg_impl_ClaimGrant : Summ := sigOf [.d tBook true, .d tWant true] false [.own tBook true [(106, none), (34, (some [9])), (9, none), (94, (some [9, 82, 9, 9]))], .d tInt false]
def S_impl_ClaimGrant_0 (w : Want) (r_1 : Book) (t48 : Int) (t4c4 : Int) (out7c3a : List Part) (t49 : Int) (out7c1a : List Spot) : St := { fr := [(3, AV.w (V1.one (C.pb 3 0))), (4, AV.w (V1.one (C.pb 4 0))), (7, AV.w (V1.one (C.pb 7 0))), (47, AV.w (V1.one (C.v tUse.slice w.2.2.2.1))), (48, AV.w (V1.one (C.v tInt t48))), (49, AV.w (V1.one (C.v tInt t49)))], H := [(3, Ob.box [C.v tInt w.1, C.v tInt w.2.1, C.v tTxts w.2.2.1, C.v tUse.slice w.2.2.2.1, C.v tTxts w.2.2.2.2.1, C.v tTxts w.2.2.2.2.2]), (4, Ob.box [C.emp, C.emp, C.emp, C.emp, C.v tInt t4c4]), (7, Ob.box [C.arr 1000700, C.arr 1000701, C.arr 1000702, C.arr 1000703, C.v tInt w.1]), (1000700, Ob.arr 106 tFoe r_1.1), (1000701, Ob.arr 34 tSpot out7c1a (Dp.yes [9])), (1000702, Ob.arr 9 Ty.str r_1.2.2.1), (1000703, Ob.arr 94 tPart out7c3a (Dp.yes [9, 82, 9, 9]))] }
noncomputable def E_impl_ClaimGrant (N : Nat) : Env := envOf (tabOf tabL) (tabS (phiL_impl_ClaimGrant N)) inl0 N fi_impl_ClaimGrant []
noncomputable def K_impl_ClaimGrant := (kFun (tabOf tabL) fi_impl_ClaimGrant.res (kT (ofDs [tBook, tInt]) sg_impl_ClaimGrant []))
noncomputable def its_impl_ClaimGrant_0 (N : Nat) (n : Nat) : St → Option (Book × Int) := fun S' => iter [] (annAt fi_impl_ClaimGrant 0) (code (E_impl_ClaimGrant N) (lpIn fi_impl_ClaimGrant.body 0 0) 0) n S' (contOf (E_impl_ClaimGrant N) fi_impl_ClaimGrant.body 0 0 K_impl_ClaimGrant)
noncomputable def it_impl_ClaimGrant_0 (N : Nat) (w : Want) (r_1 : Book) (t48 : Int) (t4c4 : Int) (out7c3a : List Part) (n : Nat) : Int → (List Spot) → Option (Book × Int) := fun t49 out7c1a => its_impl_ClaimGrant_0 N n (S_impl_ClaimGrant_0 w r_1 t48 t4c4 out7c3a t49 out7c1a)
theorem fe_impl_ClaimGrant_0 (N : Nat) : it_impl_ClaimGrant_0 N = impl_ClaimGrant_0 N := funext fun w => funext fun r_1 => funext fun t48 => funext fun t4c4 => funext fun out7c3a => funext (lp_all (by kernel_rfl) fun n => by
    show _ = impl_ClaimGrant_0r N w r_1 t48 t4c4 out7c3a (it_impl_ClaimGrant_0 N w r_1 t48 t4c4 out7c3a n)
    kernel_rfl)
theorem run_impl_ClaimGrant (N : Nat) (b : (List ((List UInt8) × (List UInt8))) × ((List ((List UInt8) × ((Int) × ((Int) × ((Int) × (List Txt)))))) × ((List Txt) × ((List (((Int) × ((Int) × ((List Txt) × ((List ((List UInt8) × ((Int) × (Int)))) × ((List Txt) × (List Txt)))))) × (Bool))) × (Int))))) (w : (Int) × ((Int) × ((List Txt) × ((List ((List UInt8) × ((Int) × (Int)))) × ((List Txt) × (List Txt)))))) : runST (ofDs [tBook, tInt]) (tabOf tabL) (tabS (phiL_impl_ClaimGrant N)) inl0 N fi_impl_ClaimGrant sg_impl_ClaimGrant [⟨tBook, b⟩, ⟨tWant, w⟩] = F.impl_ClaimGrant N b w := by
    show _ = F.impl_ClaimGrantb N (F.impl_ClaimGrant_0 N) b w
    rw [← fe_impl_ClaimGrant_0 N]
    kernel_rfl
def sm_impl_ClaimGrant (N : Nat) : Summ := summOf [.d tBook true, .d tWant true] false [.own tBook true [(106, none), (34, (some [9])), (9, none), (94, (some [9, 82, 9, 9]))], .d tInt false] [tBook, tInt] (F.impl_ClaimGrant N)
theorem con_impl_ClaimGrant (N : Nat) : Contract Tryz.prog 19 (sm_impl_ClaimGrant N) := con_of (N := N) tabOK mixed (callOK_list (l := phiL_impl_ClaimGrant N) (allc rfl (con_impl_ClaimCode N) (allc rfl (con_impl_copyBook N) (allc rfl (con_impl_ClaimBook_part N) (allc rfl (con_impl_copyWant N) (allc rfl (con_impl_ClaimBook_at N) (allc rfl (con_impl_both N) trivial))))))) (inl0_ok _) ok_impl_ClaimGrant (by decide) fun b w => run_impl_ClaimGrant N b w
def an_laws_eqClaimFoe : Nat → Option Ann := fun _ => none
noncomputable def fi_laws_eqClaimFoe : FI := ⟨Tryz.f152.results.toList, bodyOf Tryz.f152.body, Tryz.f152.ntmps, an_laws_eqClaimFoe⟩
theorem ok_laws_eqClaimFoe : FnOK Tryz.prog 152 fi_laws_eqClaimFoe := ⟨⟨Tryz.f152, Tryz.func152, by kernel_rfl, rfl, rfl, by kernel_rfl⟩, by kernel_rfl⟩
def phiL_laws_eqClaimFoe (N : Nat) : List (Nat × Summ) := []
def sg_laws_eqClaimFoe : Summ := sigOf [.d tFoe true, .d tFoe true] false [.d (.bool) false]
theorem run_laws_eqClaimFoe (N : Nat) (a : (List UInt8) × (List UInt8)) (b : (List UInt8) × (List UInt8)) : runST (ofDs [.bool]) (tabOf tabL) (tabS (phiL_laws_eqClaimFoe N)) inl0 N fi_laws_eqClaimFoe sg_laws_eqClaimFoe [⟨tFoe, a⟩, ⟨tFoe, b⟩] = F.laws_eqClaimFoe N a b := by kernel_rfl
def sm_laws_eqClaimFoe (N : Nat) : Summ := summOf [.d tFoe true, .d tFoe true] false [.d (.bool) false] [.bool] (F.laws_eqClaimFoe N)
theorem con_laws_eqClaimFoe (N : Nat) : Contract Tryz.prog 152 (sm_laws_eqClaimFoe N) := con_of (N := N) tabOK mixed (callOK_list (l := phiL_laws_eqClaimFoe N) trivial) (inl0_ok _) ok_laws_eqClaimFoe (by decide) fun a b => run_laws_eqClaimFoe N a b
def an_laws_eqClaimFoeS : Nat → Option Ann
  | 0 => some ⟨{ fr := [(0, Dir.keep), (1, Dir.keep), (5, Dir.keep)], bx := [], os := [] }, [(0, { fr := [], bx := [], os := [] })], { fr := [(4, Dir.keep)], bx := [], os := [] }⟩
  | _ => none
noncomputable def fi_laws_eqClaimFoeS : FI := ⟨Tryz.f87.results.toList, bodyOf Tryz.f87.body, Tryz.f87.ntmps, an_laws_eqClaimFoeS⟩
theorem ok_laws_eqClaimFoeS : FnOK Tryz.prog 87 fi_laws_eqClaimFoeS := ⟨⟨Tryz.f87, Tryz.func87, by kernel_rfl, rfl, rfl, by kernel_rfl⟩, by kernel_rfl⟩
def phiL_laws_eqClaimFoeS (N : Nat) : List (Nat × Summ) := [(152, sm_laws_eqClaimFoe N)]
def sg_laws_eqClaimFoeS : Summ := sigOf [.d (.slice tFoe) false, .d (.slice tFoe) false] false [.d (.bool) false]
def S_laws_eqClaimFoeS_0 (a : List Foe) (b : List Foe) (i5 : Int) : St := { fr := [(0, AV.w (V1.one (C.v tFoe.slice a))), (1, AV.w (V1.one (C.v tFoe.slice b))), (5, AV.w (V1.one (C.v tInt i5)))], H := [] }
noncomputable def E_laws_eqClaimFoeS (N : Nat) : Env := envOf (tabOf tabL) (tabS (phiL_laws_eqClaimFoeS N)) inl0 N fi_laws_eqClaimFoeS []
noncomputable def K_laws_eqClaimFoeS := (kFun (tabOf tabL) fi_laws_eqClaimFoeS.res (kT (ofDs [.bool]) sg_laws_eqClaimFoeS []))
noncomputable def its_laws_eqClaimFoeS_0 (N : Nat) (n : Nat) : St → Option Bool := fun S' => iter [] (annAt fi_laws_eqClaimFoeS 0) (code (E_laws_eqClaimFoeS N) (lpIn fi_laws_eqClaimFoeS.body 0 0) 0) n S' (contOf (E_laws_eqClaimFoeS N) fi_laws_eqClaimFoeS.body 0 0 K_laws_eqClaimFoeS)
noncomputable def it_laws_eqClaimFoeS_0 (N : Nat) (a : List Foe) (b : List Foe) (n : Nat) : Int → Option Bool := fun i5 => its_laws_eqClaimFoeS_0 N n (S_laws_eqClaimFoeS_0 a b i5)
theorem fe_laws_eqClaimFoeS_0 (N : Nat) : it_laws_eqClaimFoeS_0 N = laws_eqClaimFoeS_0 N := funext fun a => funext fun b => funext (lp_all (by kernel_rfl) fun n => by
    show _ = laws_eqClaimFoeS_0r N a b (it_laws_eqClaimFoeS_0 N a b n)
    kernel_rfl)
theorem run_laws_eqClaimFoeS (N : Nat) (a : List ((List UInt8) × (List UInt8))) (b : List ((List UInt8) × (List UInt8))) : runST (ofDs [.bool]) (tabOf tabL) (tabS (phiL_laws_eqClaimFoeS N)) inl0 N fi_laws_eqClaimFoeS sg_laws_eqClaimFoeS [⟨.slice tFoe, a⟩, ⟨.slice tFoe, b⟩] = F.laws_eqClaimFoeS N a b := by
    show _ = F.laws_eqClaimFoeSb N (F.laws_eqClaimFoeS_0 N) a b
    rw [← fe_laws_eqClaimFoeS_0 N]
    kernel_rfl
def sm_laws_eqClaimFoeS (N : Nat) : Summ := summOf [.d (.slice tFoe) false, .d (.slice tFoe) false] false [.d (.bool) false] [.bool] (F.laws_eqClaimFoeS N)
theorem con_laws_eqClaimFoeS (N : Nat) : Contract Tryz.prog 87 (sm_laws_eqClaimFoeS N) := con_of (N := N) tabOK mixed (callOK_list (l := phiL_laws_eqClaimFoeS N) (allc rfl (con_laws_eqClaimFoe N) trivial)) (inl0_ok _) ok_laws_eqClaimFoeS (by decide) fun a b => run_laws_eqClaimFoeS N a b
def an_laws_eqStringS : Nat → Option Ann
  | 0 => some ⟨{ fr := [(0, Dir.keep), (1, Dir.keep), (5, Dir.keep)], bx := [], os := [] }, [(0, { fr := [], bx := [], os := [] })], { fr := [(4, Dir.keep)], bx := [], os := [] }⟩
  | _ => none
noncomputable def fi_laws_eqStringS : FI := ⟨Tryz.f89.results.toList, bodyOf Tryz.f89.body, Tryz.f89.ntmps, an_laws_eqStringS⟩
theorem ok_laws_eqStringS : FnOK Tryz.prog 89 fi_laws_eqStringS := ⟨⟨Tryz.f89, Tryz.func89, by kernel_rfl, rfl, rfl, by kernel_rfl⟩, by kernel_rfl⟩
def phiL_laws_eqStringS (N : Nat) : List (Nat × Summ) := []
def sg_laws_eqStringS : Summ := sigOf [.d tTxts false, .d tTxts false] false [.d (.bool) false]
def S_laws_eqStringS_0 (a : List Txt) (b : List Txt) (i5 : Int) : St := { fr := [(0, AV.w (V1.one (C.v tTxts a))), (1, AV.w (V1.one (C.v tTxts b))), (5, AV.w (V1.one (C.v tInt i5)))], H := [] }
noncomputable def E_laws_eqStringS (N : Nat) : Env := envOf (tabOf tabL) (tabS (phiL_laws_eqStringS N)) inl0 N fi_laws_eqStringS []
noncomputable def K_laws_eqStringS := (kFun (tabOf tabL) fi_laws_eqStringS.res (kT (ofDs [.bool]) sg_laws_eqStringS []))
noncomputable def its_laws_eqStringS_0 (N : Nat) (n : Nat) : St → Option Bool := fun S' => iter [] (annAt fi_laws_eqStringS 0) (code (E_laws_eqStringS N) (lpIn fi_laws_eqStringS.body 0 0) 0) n S' (contOf (E_laws_eqStringS N) fi_laws_eqStringS.body 0 0 K_laws_eqStringS)
noncomputable def it_laws_eqStringS_0 (N : Nat) (a : List Txt) (b : List Txt) (n : Nat) : Int → Option Bool := fun i5 => its_laws_eqStringS_0 N n (S_laws_eqStringS_0 a b i5)
theorem fe_laws_eqStringS_0 (N : Nat) : it_laws_eqStringS_0 N = laws_eqStringS_0 N := funext fun a => funext fun b => funext (lp_all (by kernel_rfl) fun n => by
    show _ = laws_eqStringS_0r N a b (it_laws_eqStringS_0 N a b n)
    kernel_rfl)
theorem run_laws_eqStringS (N : Nat) (a : List (List UInt8)) (b : List (List UInt8)) : runST (ofDs [.bool]) (tabOf tabL) (tabS (phiL_laws_eqStringS N)) inl0 N fi_laws_eqStringS sg_laws_eqStringS [⟨tTxts, a⟩, ⟨tTxts, b⟩] = F.laws_eqStringS N a b := by
    show _ = F.laws_eqStringSb N (F.laws_eqStringS_0 N) a b
    rw [← fe_laws_eqStringS_0 N]
    kernel_rfl
def sm_laws_eqStringS (N : Nat) : Summ := summOf [.d tTxts false, .d tTxts false] false [.d (.bool) false] [.bool] (F.laws_eqStringS N)
theorem con_laws_eqStringS (N : Nat) : Contract Tryz.prog 89 (sm_laws_eqStringS N) := con_of (N := N) tabOK mixed (callOK_list (l := phiL_laws_eqStringS N) trivial) (inl0_ok _) ok_laws_eqStringS (by decide) fun a b => run_laws_eqStringS N a b
def an_laws_eqClaimSpot : Nat → Option Ann := fun _ => none
noncomputable def fi_laws_eqClaimSpot : FI := ⟨Tryz.f153.results.toList, bodyOf Tryz.f153.body, Tryz.f153.ntmps, an_laws_eqClaimSpot⟩
theorem ok_laws_eqClaimSpot : FnOK Tryz.prog 153 fi_laws_eqClaimSpot := ⟨⟨Tryz.f153, Tryz.func153, by kernel_rfl, rfl, rfl, by kernel_rfl⟩, by kernel_rfl⟩
def phiL_laws_eqClaimSpot (N : Nat) : List (Nat × Summ) := [(89, sm_laws_eqStringS N)]
def sg_laws_eqClaimSpot : Summ := sigOf [.d tSpot true, .d tSpot true] false [.d (.bool) false]
theorem run_laws_eqClaimSpot (N : Nat) (a : (List UInt8) × ((Int) × ((Int) × ((Int) × (List Txt))))) (b : (List UInt8) × ((Int) × ((Int) × ((Int) × (List Txt))))) : runST (ofDs [.bool]) (tabOf tabL) (tabS (phiL_laws_eqClaimSpot N)) inl0 N fi_laws_eqClaimSpot sg_laws_eqClaimSpot [⟨tSpot, a⟩, ⟨tSpot, b⟩] = F.laws_eqClaimSpot N a b := by kernel_rfl
def sm_laws_eqClaimSpot (N : Nat) : Summ := summOf [.d tSpot true, .d tSpot true] false [.d (.bool) false] [.bool] (F.laws_eqClaimSpot N)
theorem con_laws_eqClaimSpot (N : Nat) : Contract Tryz.prog 153 (sm_laws_eqClaimSpot N) := con_of (N := N) tabOK mixed (callOK_list (l := phiL_laws_eqClaimSpot N) (allc rfl (con_laws_eqStringS N) trivial)) (inl0_ok _) ok_laws_eqClaimSpot (by decide) fun a b => run_laws_eqClaimSpot N a b
def an_laws_eqClaimSpotS : Nat → Option Ann
  | 0 => some ⟨{ fr := [(0, Dir.keep), (1, Dir.keep), (5, Dir.keep)], bx := [], os := [] }, [(0, { fr := [], bx := [], os := [] })], { fr := [(4, Dir.keep)], bx := [], os := [] }⟩
  | _ => none
noncomputable def fi_laws_eqClaimSpotS : FI := ⟨Tryz.f88.results.toList, bodyOf Tryz.f88.body, Tryz.f88.ntmps, an_laws_eqClaimSpotS⟩
theorem ok_laws_eqClaimSpotS : FnOK Tryz.prog 88 fi_laws_eqClaimSpotS := ⟨⟨Tryz.f88, Tryz.func88, by kernel_rfl, rfl, rfl, by kernel_rfl⟩, by kernel_rfl⟩
def phiL_laws_eqClaimSpotS (N : Nat) : List (Nat × Summ) := [(153, sm_laws_eqClaimSpot N)]
def sg_laws_eqClaimSpotS : Summ := sigOf [.d (.slice tSpot) false, .d (.slice tSpot) false] false [.d (.bool) false]
def S_laws_eqClaimSpotS_0 (a : List Spot) (b : List Spot) (i5 : Int) : St := { fr := [(0, AV.w (V1.one (C.v tSpot.slice a))), (1, AV.w (V1.one (C.v tSpot.slice b))), (5, AV.w (V1.one (C.v tInt i5)))], H := [] }
noncomputable def E_laws_eqClaimSpotS (N : Nat) : Env := envOf (tabOf tabL) (tabS (phiL_laws_eqClaimSpotS N)) inl0 N fi_laws_eqClaimSpotS []
noncomputable def K_laws_eqClaimSpotS := (kFun (tabOf tabL) fi_laws_eqClaimSpotS.res (kT (ofDs [.bool]) sg_laws_eqClaimSpotS []))
noncomputable def its_laws_eqClaimSpotS_0 (N : Nat) (n : Nat) : St → Option Bool := fun S' => iter [] (annAt fi_laws_eqClaimSpotS 0) (code (E_laws_eqClaimSpotS N) (lpIn fi_laws_eqClaimSpotS.body 0 0) 0) n S' (contOf (E_laws_eqClaimSpotS N) fi_laws_eqClaimSpotS.body 0 0 K_laws_eqClaimSpotS)
noncomputable def it_laws_eqClaimSpotS_0 (N : Nat) (a : List Spot) (b : List Spot) (n : Nat) : Int → Option Bool := fun i5 => its_laws_eqClaimSpotS_0 N n (S_laws_eqClaimSpotS_0 a b i5)
theorem fe_laws_eqClaimSpotS_0 (N : Nat) : it_laws_eqClaimSpotS_0 N = laws_eqClaimSpotS_0 N := funext fun a => funext fun b => funext (lp_all (by kernel_rfl) fun n => by
    show _ = laws_eqClaimSpotS_0r N a b (it_laws_eqClaimSpotS_0 N a b n)
    kernel_rfl)
theorem run_laws_eqClaimSpotS (N : Nat) (a : List ((List UInt8) × ((Int) × ((Int) × ((Int) × (List Txt)))))) (b : List ((List UInt8) × ((Int) × ((Int) × ((Int) × (List Txt)))))) : runST (ofDs [.bool]) (tabOf tabL) (tabS (phiL_laws_eqClaimSpotS N)) inl0 N fi_laws_eqClaimSpotS sg_laws_eqClaimSpotS [⟨.slice tSpot, a⟩, ⟨.slice tSpot, b⟩] = F.laws_eqClaimSpotS N a b := by
    show _ = F.laws_eqClaimSpotSb N (F.laws_eqClaimSpotS_0 N) a b
    rw [← fe_laws_eqClaimSpotS_0 N]
    kernel_rfl
def sm_laws_eqClaimSpotS (N : Nat) : Summ := summOf [.d (.slice tSpot) false, .d (.slice tSpot) false] false [.d (.bool) false] [.bool] (F.laws_eqClaimSpotS N)
theorem con_laws_eqClaimSpotS (N : Nat) : Contract Tryz.prog 88 (sm_laws_eqClaimSpotS N) := con_of (N := N) tabOK mixed (callOK_list (l := phiL_laws_eqClaimSpotS N) (allc rfl (con_laws_eqClaimSpot N) trivial)) (inl0_ok _) ok_laws_eqClaimSpotS (by decide) fun a b => run_laws_eqClaimSpotS N a b
def an_laws_eqClaimUse : Nat → Option Ann := fun _ => none
noncomputable def fi_laws_eqClaimUse : FI := ⟨Tryz.f170.results.toList, bodyOf Tryz.f170.body, Tryz.f170.ntmps, an_laws_eqClaimUse⟩
theorem ok_laws_eqClaimUse : FnOK Tryz.prog 170 fi_laws_eqClaimUse := ⟨⟨Tryz.f170, Tryz.func170, by kernel_rfl, rfl, rfl, by kernel_rfl⟩, by kernel_rfl⟩
def phiL_laws_eqClaimUse (N : Nat) : List (Nat × Summ) := []
def sg_laws_eqClaimUse : Summ := sigOf [.d tUse true, .d tUse true] false [.d (.bool) false]
theorem run_laws_eqClaimUse (N : Nat) (a : (List UInt8) × ((Int) × (Int))) (b : (List UInt8) × ((Int) × (Int))) : runST (ofDs [.bool]) (tabOf tabL) (tabS (phiL_laws_eqClaimUse N)) inl0 N fi_laws_eqClaimUse sg_laws_eqClaimUse [⟨tUse, a⟩, ⟨tUse, b⟩] = F.laws_eqClaimUse N a b := by kernel_rfl
def sm_laws_eqClaimUse (N : Nat) : Summ := summOf [.d tUse true, .d tUse true] false [.d (.bool) false] [.bool] (F.laws_eqClaimUse N)
theorem con_laws_eqClaimUse (N : Nat) : Contract Tryz.prog 170 (sm_laws_eqClaimUse N) := con_of (N := N) tabOK mixed (callOK_list (l := phiL_laws_eqClaimUse N) trivial) (inl0_ok _) ok_laws_eqClaimUse (by decide) fun a b => run_laws_eqClaimUse N a b
def an_laws_eqClaimUseS : Nat → Option Ann
  | 0 => some ⟨{ fr := [(0, Dir.keep), (1, Dir.keep), (5, Dir.keep)], bx := [], os := [] }, [(0, { fr := [], bx := [], os := [] })], { fr := [(4, Dir.keep)], bx := [], os := [] }⟩
  | _ => none
noncomputable def fi_laws_eqClaimUseS : FI := ⟨Tryz.f119.results.toList, bodyOf Tryz.f119.body, Tryz.f119.ntmps, an_laws_eqClaimUseS⟩
theorem ok_laws_eqClaimUseS : FnOK Tryz.prog 119 fi_laws_eqClaimUseS := ⟨⟨Tryz.f119, Tryz.func119, by kernel_rfl, rfl, rfl, by kernel_rfl⟩, by kernel_rfl⟩
def phiL_laws_eqClaimUseS (N : Nat) : List (Nat × Summ) := [(170, sm_laws_eqClaimUse N)]
def sg_laws_eqClaimUseS : Summ := sigOf [.d (.slice tUse) false, .d (.slice tUse) false] false [.d (.bool) false]
def S_laws_eqClaimUseS_0 (a : List Use) (b : List Use) (i5 : Int) : St := { fr := [(0, AV.w (V1.one (C.v tUse.slice a))), (1, AV.w (V1.one (C.v tUse.slice b))), (5, AV.w (V1.one (C.v tInt i5)))], H := [] }
noncomputable def E_laws_eqClaimUseS (N : Nat) : Env := envOf (tabOf tabL) (tabS (phiL_laws_eqClaimUseS N)) inl0 N fi_laws_eqClaimUseS []
noncomputable def K_laws_eqClaimUseS := (kFun (tabOf tabL) fi_laws_eqClaimUseS.res (kT (ofDs [.bool]) sg_laws_eqClaimUseS []))
noncomputable def its_laws_eqClaimUseS_0 (N : Nat) (n : Nat) : St → Option Bool := fun S' => iter [] (annAt fi_laws_eqClaimUseS 0) (code (E_laws_eqClaimUseS N) (lpIn fi_laws_eqClaimUseS.body 0 0) 0) n S' (contOf (E_laws_eqClaimUseS N) fi_laws_eqClaimUseS.body 0 0 K_laws_eqClaimUseS)
noncomputable def it_laws_eqClaimUseS_0 (N : Nat) (a : List Use) (b : List Use) (n : Nat) : Int → Option Bool := fun i5 => its_laws_eqClaimUseS_0 N n (S_laws_eqClaimUseS_0 a b i5)
theorem fe_laws_eqClaimUseS_0 (N : Nat) : it_laws_eqClaimUseS_0 N = laws_eqClaimUseS_0 N := funext fun a => funext fun b => funext (lp_all (by kernel_rfl) fun n => by
    show _ = laws_eqClaimUseS_0r N a b (it_laws_eqClaimUseS_0 N a b n)
    kernel_rfl)
theorem run_laws_eqClaimUseS (N : Nat) (a : List ((List UInt8) × ((Int) × (Int)))) (b : List ((List UInt8) × ((Int) × (Int)))) : runST (ofDs [.bool]) (tabOf tabL) (tabS (phiL_laws_eqClaimUseS N)) inl0 N fi_laws_eqClaimUseS sg_laws_eqClaimUseS [⟨.slice tUse, a⟩, ⟨.slice tUse, b⟩] = F.laws_eqClaimUseS N a b := by
    show _ = F.laws_eqClaimUseSb N (F.laws_eqClaimUseS_0 N) a b
    rw [← fe_laws_eqClaimUseS_0 N]
    kernel_rfl
def sm_laws_eqClaimUseS (N : Nat) : Summ := summOf [.d (.slice tUse) false, .d (.slice tUse) false] false [.d (.bool) false] [.bool] (F.laws_eqClaimUseS N)
theorem con_laws_eqClaimUseS (N : Nat) : Contract Tryz.prog 119 (sm_laws_eqClaimUseS N) := con_of (N := N) tabOK mixed (callOK_list (l := phiL_laws_eqClaimUseS N) (allc rfl (con_laws_eqClaimUse N) trivial)) (inl0_ok _) ok_laws_eqClaimUseS (by decide) fun a b => run_laws_eqClaimUseS N a b
def an_laws_eqClaimWant : Nat → Option Ann := fun _ => none
noncomputable def fi_laws_eqClaimWant : FI := ⟨Tryz.f41.results.toList, bodyOf Tryz.f41.body, Tryz.f41.ntmps, an_laws_eqClaimWant⟩
theorem ok_laws_eqClaimWant : FnOK Tryz.prog 41 fi_laws_eqClaimWant := ⟨⟨Tryz.f41, Tryz.func41, by kernel_rfl, rfl, rfl, by kernel_rfl⟩, by kernel_rfl⟩
def phiL_laws_eqClaimWant (N : Nat) : List (Nat × Summ) := [(89, sm_laws_eqStringS N), (119, sm_laws_eqClaimUseS N)]
def sg_laws_eqClaimWant : Summ := sigOf [.d tWant true, .d tWant true] false [.d (.bool) false]
theorem run_laws_eqClaimWant (N : Nat) (a : (Int) × ((Int) × ((List Txt) × ((List ((List UInt8) × ((Int) × (Int)))) × ((List Txt) × (List Txt)))))) (b : (Int) × ((Int) × ((List Txt) × ((List ((List UInt8) × ((Int) × (Int)))) × ((List Txt) × (List Txt)))))) : runST (ofDs [.bool]) (tabOf tabL) (tabS (phiL_laws_eqClaimWant N)) inl0 N fi_laws_eqClaimWant sg_laws_eqClaimWant [⟨tWant, a⟩, ⟨tWant, b⟩] = F.laws_eqClaimWant N a b := by kernel_rfl
def sm_laws_eqClaimWant (N : Nat) : Summ := summOf [.d tWant true, .d tWant true] false [.d (.bool) false] [.bool] (F.laws_eqClaimWant N)
theorem con_laws_eqClaimWant (N : Nat) : Contract Tryz.prog 41 (sm_laws_eqClaimWant N) := con_of (N := N) tabOK mixed (callOK_list (l := phiL_laws_eqClaimWant N) (allc rfl (con_laws_eqStringS N) (allc rfl (con_laws_eqClaimUseS N) trivial))) (inl0_ok _) ok_laws_eqClaimWant (by decide) fun a b => run_laws_eqClaimWant N a b
def an_laws_eqClaimPart : Nat → Option Ann := fun _ => none
noncomputable def fi_laws_eqClaimPart : FI := ⟨Tryz.f154.results.toList, bodyOf Tryz.f154.body, Tryz.f154.ntmps, an_laws_eqClaimPart⟩
theorem ok_laws_eqClaimPart : FnOK Tryz.prog 154 fi_laws_eqClaimPart := ⟨⟨Tryz.f154, Tryz.func154, by kernel_rfl, rfl, rfl, by kernel_rfl⟩, by kernel_rfl⟩
def phiL_laws_eqClaimPart (N : Nat) : List (Nat × Summ) := [(41, sm_laws_eqClaimWant N)]
def sg_laws_eqClaimPart : Summ := sigOf [.d tPart true, .d tPart true] false [.d (.bool) false]
theorem run_laws_eqClaimPart (N : Nat) (a : ((Int) × ((Int) × ((List Txt) × ((List ((List UInt8) × ((Int) × (Int)))) × ((List Txt) × (List Txt)))))) × (Bool)) (b : ((Int) × ((Int) × ((List Txt) × ((List ((List UInt8) × ((Int) × (Int)))) × ((List Txt) × (List Txt)))))) × (Bool)) : runST (ofDs [.bool]) (tabOf tabL) (tabS (phiL_laws_eqClaimPart N)) inl0 N fi_laws_eqClaimPart sg_laws_eqClaimPart [⟨tPart, a⟩, ⟨tPart, b⟩] = F.laws_eqClaimPart N a b := by kernel_rfl
def sm_laws_eqClaimPart (N : Nat) : Summ := summOf [.d tPart true, .d tPart true] false [.d (.bool) false] [.bool] (F.laws_eqClaimPart N)
theorem con_laws_eqClaimPart (N : Nat) : Contract Tryz.prog 154 (sm_laws_eqClaimPart N) := con_of (N := N) tabOK mixed (callOK_list (l := phiL_laws_eqClaimPart N) (allc rfl (con_laws_eqClaimWant N) trivial)) (inl0_ok _) ok_laws_eqClaimPart (by decide) fun a b => run_laws_eqClaimPart N a b
def an_laws_eqClaimPartS : Nat → Option Ann
  | 0 => some ⟨{ fr := [(0, Dir.keep), (1, Dir.keep), (5, Dir.keep)], bx := [], os := [] }, [(0, { fr := [], bx := [], os := [] })], { fr := [(4, Dir.keep)], bx := [], os := [] }⟩
  | _ => none
noncomputable def fi_laws_eqClaimPartS : FI := ⟨Tryz.f90.results.toList, bodyOf Tryz.f90.body, Tryz.f90.ntmps, an_laws_eqClaimPartS⟩
theorem ok_laws_eqClaimPartS : FnOK Tryz.prog 90 fi_laws_eqClaimPartS := ⟨⟨Tryz.f90, Tryz.func90, by kernel_rfl, rfl, rfl, by kernel_rfl⟩, by kernel_rfl⟩
def phiL_laws_eqClaimPartS (N : Nat) : List (Nat × Summ) := [(154, sm_laws_eqClaimPart N)]
def sg_laws_eqClaimPartS : Summ := sigOf [.d (.slice tPart) false, .d (.slice tPart) false] false [.d (.bool) false]
def S_laws_eqClaimPartS_0 (a : List Part) (b : List Part) (i5 : Int) : St := { fr := [(0, AV.w (V1.one (C.v tPart.slice a))), (1, AV.w (V1.one (C.v tPart.slice b))), (5, AV.w (V1.one (C.v tInt i5)))], H := [] }
noncomputable def E_laws_eqClaimPartS (N : Nat) : Env := envOf (tabOf tabL) (tabS (phiL_laws_eqClaimPartS N)) inl0 N fi_laws_eqClaimPartS []
noncomputable def K_laws_eqClaimPartS := (kFun (tabOf tabL) fi_laws_eqClaimPartS.res (kT (ofDs [.bool]) sg_laws_eqClaimPartS []))
noncomputable def its_laws_eqClaimPartS_0 (N : Nat) (n : Nat) : St → Option Bool := fun S' => iter [] (annAt fi_laws_eqClaimPartS 0) (code (E_laws_eqClaimPartS N) (lpIn fi_laws_eqClaimPartS.body 0 0) 0) n S' (contOf (E_laws_eqClaimPartS N) fi_laws_eqClaimPartS.body 0 0 K_laws_eqClaimPartS)
noncomputable def it_laws_eqClaimPartS_0 (N : Nat) (a : List Part) (b : List Part) (n : Nat) : Int → Option Bool := fun i5 => its_laws_eqClaimPartS_0 N n (S_laws_eqClaimPartS_0 a b i5)
theorem fe_laws_eqClaimPartS_0 (N : Nat) : it_laws_eqClaimPartS_0 N = laws_eqClaimPartS_0 N := funext fun a => funext fun b => funext (lp_all (by kernel_rfl) fun n => by
    show _ = laws_eqClaimPartS_0r N a b (it_laws_eqClaimPartS_0 N a b n)
    kernel_rfl)
theorem run_laws_eqClaimPartS (N : Nat) (a : List (((Int) × ((Int) × ((List Txt) × ((List ((List UInt8) × ((Int) × (Int)))) × ((List Txt) × (List Txt)))))) × (Bool))) (b : List (((Int) × ((Int) × ((List Txt) × ((List ((List UInt8) × ((Int) × (Int)))) × ((List Txt) × (List Txt)))))) × (Bool))) : runST (ofDs [.bool]) (tabOf tabL) (tabS (phiL_laws_eqClaimPartS N)) inl0 N fi_laws_eqClaimPartS sg_laws_eqClaimPartS [⟨.slice tPart, a⟩, ⟨.slice tPart, b⟩] = F.laws_eqClaimPartS N a b := by
    show _ = F.laws_eqClaimPartSb N (F.laws_eqClaimPartS_0 N) a b
    rw [← fe_laws_eqClaimPartS_0 N]
    kernel_rfl
def sm_laws_eqClaimPartS (N : Nat) : Summ := summOf [.d (.slice tPart) false, .d (.slice tPart) false] false [.d (.bool) false] [.bool] (F.laws_eqClaimPartS N)
theorem con_laws_eqClaimPartS (N : Nat) : Contract Tryz.prog 90 (sm_laws_eqClaimPartS N) := con_of (N := N) tabOK mixed (callOK_list (l := phiL_laws_eqClaimPartS N) (allc rfl (con_laws_eqClaimPart N) trivial)) (inl0_ok _) ok_laws_eqClaimPartS (by decide) fun a b => run_laws_eqClaimPartS N a b
def an_laws_eqClaimBook : Nat → Option Ann := fun _ => none
noncomputable def fi_laws_eqClaimBook : FI := ⟨Tryz.f26.results.toList, bodyOf Tryz.f26.body, Tryz.f26.ntmps, an_laws_eqClaimBook⟩
theorem ok_laws_eqClaimBook : FnOK Tryz.prog 26 fi_laws_eqClaimBook := ⟨⟨Tryz.f26, Tryz.func26, by kernel_rfl, rfl, rfl, by kernel_rfl⟩, by kernel_rfl⟩
def phiL_laws_eqClaimBook (N : Nat) : List (Nat × Summ) := [(87, sm_laws_eqClaimFoeS N), (88, sm_laws_eqClaimSpotS N), (89, sm_laws_eqStringS N), (90, sm_laws_eqClaimPartS N)]
def sg_laws_eqClaimBook : Summ := sigOf [.d tBook true, .d tBook true] false [.d (.bool) false]
theorem run_laws_eqClaimBook (N : Nat) (a : (List ((List UInt8) × (List UInt8))) × ((List ((List UInt8) × ((Int) × ((Int) × ((Int) × (List Txt)))))) × ((List Txt) × ((List (((Int) × ((Int) × ((List Txt) × ((List ((List UInt8) × ((Int) × (Int)))) × ((List Txt) × (List Txt)))))) × (Bool))) × (Int))))) (b : (List ((List UInt8) × (List UInt8))) × ((List ((List UInt8) × ((Int) × ((Int) × ((Int) × (List Txt)))))) × ((List Txt) × ((List (((Int) × ((Int) × ((List Txt) × ((List ((List UInt8) × ((Int) × (Int)))) × ((List Txt) × (List Txt)))))) × (Bool))) × (Int))))) : runST (ofDs [.bool]) (tabOf tabL) (tabS (phiL_laws_eqClaimBook N)) inl0 N fi_laws_eqClaimBook sg_laws_eqClaimBook [⟨tBook, a⟩, ⟨tBook, b⟩] = F.laws_eqClaimBook N a b := by kernel_rfl
def sm_laws_eqClaimBook (N : Nat) : Summ := summOf [.d tBook true, .d tBook true] false [.d (.bool) false] [.bool] (F.laws_eqClaimBook N)
theorem con_laws_eqClaimBook (N : Nat) : Contract Tryz.prog 26 (sm_laws_eqClaimBook N) := con_of (N := N) tabOK mixed (callOK_list (l := phiL_laws_eqClaimBook N) (allc rfl (con_laws_eqClaimFoeS N) (allc rfl (con_laws_eqClaimSpotS N) (allc rfl (con_laws_eqStringS N) (allc rfl (con_laws_eqClaimPartS N) trivial))))) (inl0_ok _) ok_laws_eqClaimBook (by decide) fun a b => run_laws_eqClaimBook N a b
def an_laws_markText : Nat → Option Ann
  | 0 => some ⟨{ fr := [(0, Dir.keep), (3, Dir.keep)], bx := [], os := [] }, [(0, { fr := [(3, Dir.keep)], bx := [], os := [] })], ⟨[], [], []⟩⟩
  | _ => none
noncomputable def fi_laws_markText : FI := ⟨Tryz.f155.results.toList, bodyOf Tryz.f155.body, Tryz.f155.ntmps, an_laws_markText⟩
theorem ok_laws_markText : FnOK Tryz.prog 155 fi_laws_markText := ⟨⟨Tryz.f155, Tryz.func155, by kernel_rfl, rfl, rfl, by kernel_rfl⟩, by kernel_rfl⟩
def phiL_laws_markText (N : Nat) : List (Nat × Summ) := []
def sg_laws_markText : Summ := sigOf [.d tInt false] false [.d (.str) false]
def S_laws_markText_0 (k0_1 : Int) (out3 : Txt) : St := { fr := [(0, AV.w (V1.one (C.v tInt k0_1))), (3, AV.w (V1.one (C.v Ty.str out3)))], H := [] }
noncomputable def E_laws_markText (N : Nat) : Env := envOf (tabOf tabL) (tabS (phiL_laws_markText N)) inl0 N fi_laws_markText []
noncomputable def K_laws_markText := (kFun (tabOf tabL) fi_laws_markText.res (kT (ofDs [.str]) sg_laws_markText []))
noncomputable def its_laws_markText_0 (N : Nat) (n : Nat) : St → Option Txt := fun S' => iter [] (annAt fi_laws_markText 0) (code (E_laws_markText N) (lpIn fi_laws_markText.body 0 0) 0) n S' (contOf (E_laws_markText N) fi_laws_markText.body 0 0 K_laws_markText)
noncomputable def it_laws_markText_0 (N : Nat) (n : Nat) : Int → Txt → Option Txt := fun k0_1 out3 => its_laws_markText_0 N n (S_laws_markText_0 k0_1 out3)
theorem fe_laws_markText_0 (N : Nat) : it_laws_markText_0 N = laws_markText_0 N := funext (lp_all (by kernel_rfl) fun n => by
    show _ = laws_markText_0r N (it_laws_markText_0 N n)
    kernel_rfl)
theorem run_laws_markText (N : Nat) (k0 : Int) : runST (ofDs [.str]) (tabOf tabL) (tabS (phiL_laws_markText N)) inl0 N fi_laws_markText sg_laws_markText [⟨tInt, k0⟩] = F.laws_markText N k0 := by
    show _ = F.laws_markTextb N (F.laws_markText_0 N) k0
    rw [← fe_laws_markText_0 N]
    kernel_rfl
def sm_laws_markText (N : Nat) : Summ := summOf [.d tInt false] false [.d (.str) false] [.str] (F.laws_markText N)
theorem con_laws_markText (N : Nat) : Contract Tryz.prog 155 (sm_laws_markText N) := con_of (N := N) tabOK mixed (callOK_list (l := phiL_laws_markText N) trivial) (inl0_ok _) ok_laws_markText (by decide) fun k0 => run_laws_markText N k0
def an_laws_markClaimFoeS : Nat → Option Ann
  | 0 => some ⟨{ fr := [(0, Dir.keep), (1, Dir.keep), (5, Dir.keep)], bx := [], os := [400000] }, [(0, { fr := [(1, Dir.keep)], bx := [], os := [400000] })], ⟨[], [], []⟩⟩
  | _ => none
noncomputable def fi_laws_markClaimFoeS : FI := ⟨Tryz.f91.results.toList, bodyOf Tryz.f91.body, Tryz.f91.ntmps, an_laws_markClaimFoeS⟩
theorem ok_laws_markClaimFoeS : FnOK Tryz.prog 91 fi_laws_markClaimFoeS := ⟨⟨Tryz.f91, Tryz.func91, by kernel_rfl, rfl, rfl, by kernel_rfl⟩, by kernel_rfl⟩
def phiL_laws_markClaimFoeS (N : Nat) : List (Nat × Summ) := [(155, sm_laws_markText N)]
def sg_laws_markClaimFoeS : Summ := sigOf [.ow 106 tFoe none, .d tInt false] true [.d tInt false]
def S_laws_markClaimFoeS_0 (k1 : Int) (i5 : Int) (apa : List Foe) : St := { fr := [(0, AV.w (V1.one (C.arr 400000))), (1, AV.w (V1.one (C.v tInt k1))), (5, AV.w (V1.one (C.v tInt i5)))], H := [(400000, Ob.arr 106 tFoe apa)] }
noncomputable def E_laws_markClaimFoeS (N : Nat) : Env := envOf (tabOf tabL) (tabS (phiL_laws_markClaimFoeS N)) inl0 N fi_laws_markClaimFoeS [400000]
noncomputable def K_laws_markClaimFoeS := (kFun (tabOf tabL) fi_laws_markClaimFoeS.res (kT (ofDs [tInt, .slice tFoe]) sg_laws_markClaimFoeS [(400000, .ow 106 tFoe none)]))
noncomputable def its_laws_markClaimFoeS_0 (N : Nat) (n : Nat) : St → Option (Int × List Foe) := fun S' => iter [400000] (annAt fi_laws_markClaimFoeS 0) (code (E_laws_markClaimFoeS N) (lpIn fi_laws_markClaimFoeS.body 0 0) 0) n S' (contOf (E_laws_markClaimFoeS N) fi_laws_markClaimFoeS.body 0 0 K_laws_markClaimFoeS)
noncomputable def it_laws_markClaimFoeS_0 (N : Nat) (n : Nat) : Int → Int → (List Foe) → Option (Int × List Foe) := fun k1 i5 apa => its_laws_markClaimFoeS_0 N n (S_laws_markClaimFoeS_0 k1 i5 apa)
theorem fe_laws_markClaimFoeS_0 (N : Nat) : it_laws_markClaimFoeS_0 N = laws_markClaimFoeS_0 N := funext (lp_all (by kernel_rfl) fun n => by
    show _ = laws_markClaimFoeS_0r N (it_laws_markClaimFoeS_0 N n)
    kernel_rfl)
theorem run_laws_markClaimFoeS (N : Nat) (a : List ((List UInt8) × (List UInt8))) (k0 : Int) : runST (ofDs [tInt, .slice tFoe]) (tabOf tabL) (tabS (phiL_laws_markClaimFoeS N)) inl0 N fi_laws_markClaimFoeS sg_laws_markClaimFoeS [⟨.slice tFoe, a⟩, ⟨tInt, k0⟩] = F.laws_markClaimFoeS N a k0 := by
    show _ = F.laws_markClaimFoeSb N (F.laws_markClaimFoeS_0 N) a k0
    rw [← fe_laws_markClaimFoeS_0 N]
    kernel_rfl
def sm_laws_markClaimFoeS (N : Nat) : Summ := summOf [.ow 106 tFoe none, .d tInt false] true [.d tInt false] [tInt, .slice tFoe] (F.laws_markClaimFoeS N)
theorem con_laws_markClaimFoeS (N : Nat) : Contract Tryz.prog 91 (sm_laws_markClaimFoeS N) := con_of (N := N) tabOK mixed (callOK_list (l := phiL_laws_markClaimFoeS N) (allc rfl (con_laws_markText N) trivial)) (inl0_ok _) ok_laws_markClaimFoeS (by decide) fun a k0 => run_laws_markClaimFoeS N a k0
def an_laws_markStringS : Nat → Option Ann
  | 0 => some ⟨{ fr := [(0, Dir.keep), (1, Dir.keep), (5, Dir.keep)], bx := [], os := [400000] }, [(0, { fr := [(1, Dir.keep)], bx := [], os := [400000] })], ⟨[], [], []⟩⟩
  | _ => none
noncomputable def fi_laws_markStringS : FI := ⟨Tryz.f93.results.toList, bodyOf Tryz.f93.body, Tryz.f93.ntmps, an_laws_markStringS⟩
theorem ok_laws_markStringS : FnOK Tryz.prog 93 fi_laws_markStringS := ⟨⟨Tryz.f93, Tryz.func93, by kernel_rfl, rfl, rfl, by kernel_rfl⟩, by kernel_rfl⟩
def phiL_laws_markStringS (N : Nat) : List (Nat × Summ) := [(155, sm_laws_markText N)]
def sg_laws_markStringS : Summ := sigOf [.ow 9 (.str) none, .d tInt false] true [.d tInt false]
def S_laws_markStringS_0 (k1 : Int) (i5 : Int) (apa : List Txt) : St := { fr := [(0, AV.w (V1.one (C.arr 400000))), (1, AV.w (V1.one (C.v tInt k1))), (5, AV.w (V1.one (C.v tInt i5)))], H := [(400000, Ob.arr 9 Ty.str apa)] }
noncomputable def E_laws_markStringS (N : Nat) : Env := envOf (tabOf tabL) (tabS (phiL_laws_markStringS N)) inl0 N fi_laws_markStringS [400000]
noncomputable def K_laws_markStringS := (kFun (tabOf tabL) fi_laws_markStringS.res (kT (ofDs [tInt, tTxts]) sg_laws_markStringS [(400000, .ow 9 (.str) none)]))
noncomputable def its_laws_markStringS_0 (N : Nat) (n : Nat) : St → Option (Int × List Txt) := fun S' => iter [400000] (annAt fi_laws_markStringS 0) (code (E_laws_markStringS N) (lpIn fi_laws_markStringS.body 0 0) 0) n S' (contOf (E_laws_markStringS N) fi_laws_markStringS.body 0 0 K_laws_markStringS)
noncomputable def it_laws_markStringS_0 (N : Nat) (n : Nat) : Int → Int → (List Txt) → Option (Int × List Txt) := fun k1 i5 apa => its_laws_markStringS_0 N n (S_laws_markStringS_0 k1 i5 apa)
theorem fe_laws_markStringS_0 (N : Nat) : it_laws_markStringS_0 N = laws_markStringS_0 N := funext (lp_all (by kernel_rfl) fun n => by
    show _ = laws_markStringS_0r N (it_laws_markStringS_0 N n)
    kernel_rfl)
theorem run_laws_markStringS (N : Nat) (a : List (List UInt8)) (k0 : Int) : runST (ofDs [tInt, tTxts]) (tabOf tabL) (tabS (phiL_laws_markStringS N)) inl0 N fi_laws_markStringS sg_laws_markStringS [⟨tTxts, a⟩, ⟨tInt, k0⟩] = F.laws_markStringS N a k0 := by
    show _ = F.laws_markStringSb N (F.laws_markStringS_0 N) a k0
    rw [← fe_laws_markStringS_0 N]
    kernel_rfl
def sm_laws_markStringS (N : Nat) : Summ := summOf [.ow 9 (.str) none, .d tInt false] true [.d tInt false] [tInt, tTxts] (F.laws_markStringS N)
theorem con_laws_markStringS (N : Nat) : Contract Tryz.prog 93 (sm_laws_markStringS N) := con_of (N := N) tabOK mixed (callOK_list (l := phiL_laws_markStringS N) (allc rfl (con_laws_markText N) trivial)) (inl0_ok _) ok_laws_markStringS (by decide) fun a k0 => run_laws_markStringS N a k0
def an_laws_markClaimSpotS : Nat → Option Ann
  | 0 => some ⟨{ fr := [(0, Dir.keep), (1, Dir.keep), (5, Dir.keep)], bx := [], os := [400000] }, [(0, { fr := [(1, Dir.keep)], bx := [], os := [400000] })], ⟨[], [], []⟩⟩
  | _ => none
noncomputable def fi_laws_markClaimSpotS : FI := ⟨Tryz.f92.results.toList, bodyOf Tryz.f92.body, Tryz.f92.ntmps, an_laws_markClaimSpotS⟩
theorem ok_laws_markClaimSpotS : FnOK Tryz.prog 92 fi_laws_markClaimSpotS := ⟨⟨Tryz.f92, Tryz.func92, by kernel_rfl, rfl, rfl, by kernel_rfl⟩, by kernel_rfl⟩
def phiL_laws_markClaimSpotS (N : Nat) : List (Nat × Summ) := [(155, sm_laws_markText N), (93, sm_laws_markStringS N)]
def sg_laws_markClaimSpotS : Summ := sigOf [.ow 34 tSpot (some [9]), .d tInt false] true [.d tInt false]
def S_laws_markClaimSpotS_0 (k1 : Int) (i5 : Int) (apa : List Spot) : St := { fr := [(0, AV.w (V1.one (C.arr 400000))), (1, AV.w (V1.one (C.v tInt k1))), (5, AV.w (V1.one (C.v tInt i5)))], H := [(400000, Ob.arr 34 tSpot apa (Dp.yes [9]))] }
noncomputable def E_laws_markClaimSpotS (N : Nat) : Env := envOf (tabOf tabL) (tabS (phiL_laws_markClaimSpotS N)) inl0 N fi_laws_markClaimSpotS [400000]
noncomputable def K_laws_markClaimSpotS := (kFun (tabOf tabL) fi_laws_markClaimSpotS.res (kT (ofDs [tInt, .slice tSpot]) sg_laws_markClaimSpotS [(400000, .ow 34 tSpot (some [9]))]))
noncomputable def its_laws_markClaimSpotS_0 (N : Nat) (n : Nat) : St → Option (Int × List Spot) := fun S' => iter [400000] (annAt fi_laws_markClaimSpotS 0) (code (E_laws_markClaimSpotS N) (lpIn fi_laws_markClaimSpotS.body 0 0) 0) n S' (contOf (E_laws_markClaimSpotS N) fi_laws_markClaimSpotS.body 0 0 K_laws_markClaimSpotS)
noncomputable def it_laws_markClaimSpotS_0 (N : Nat) (n : Nat) : Int → Int → (List Spot) → Option (Int × List Spot) := fun k1 i5 apa => its_laws_markClaimSpotS_0 N n (S_laws_markClaimSpotS_0 k1 i5 apa)
theorem fe_laws_markClaimSpotS_0 (N : Nat) : it_laws_markClaimSpotS_0 N = laws_markClaimSpotS_0 N := funext (lp_all (by kernel_rfl) fun n => by
    show _ = laws_markClaimSpotS_0r N (it_laws_markClaimSpotS_0 N n)
    kernel_rfl)
theorem run_laws_markClaimSpotS (N : Nat) (a : List ((List UInt8) × ((Int) × ((Int) × ((Int) × (List Txt)))))) (k0 : Int) : runST (ofDs [tInt, .slice tSpot]) (tabOf tabL) (tabS (phiL_laws_markClaimSpotS N)) inl0 N fi_laws_markClaimSpotS sg_laws_markClaimSpotS [⟨.slice tSpot, a⟩, ⟨tInt, k0⟩] = F.laws_markClaimSpotS N a k0 := by
    show _ = F.laws_markClaimSpotSb N (F.laws_markClaimSpotS_0 N) a k0
    rw [← fe_laws_markClaimSpotS_0 N]
    kernel_rfl
def sm_laws_markClaimSpotS (N : Nat) : Summ := summOf [.ow 34 tSpot (some [9]), .d tInt false] true [.d tInt false] [tInt, .slice tSpot] (F.laws_markClaimSpotS N)
theorem con_laws_markClaimSpotS (N : Nat) : Contract Tryz.prog 92 (sm_laws_markClaimSpotS N) := con_of (N := N) tabOK mixed (callOK_list (l := phiL_laws_markClaimSpotS N) (allc rfl (con_laws_markText N) (allc rfl (con_laws_markStringS N) trivial))) (inl0_ok _) ok_laws_markClaimSpotS (by decide) fun a k0 => run_laws_markClaimSpotS N a k0
def an_laws_markClaimUseS : Nat → Option Ann
  | 0 => some ⟨{ fr := [(0, Dir.keep), (1, Dir.keep), (5, Dir.keep)], bx := [], os := [400000] }, [(0, { fr := [(1, Dir.keep)], bx := [], os := [400000] })], ⟨[], [], []⟩⟩
  | _ => none
noncomputable def fi_laws_markClaimUseS : FI := ⟨Tryz.f127.results.toList, bodyOf Tryz.f127.body, Tryz.f127.ntmps, an_laws_markClaimUseS⟩
theorem ok_laws_markClaimUseS : FnOK Tryz.prog 127 fi_laws_markClaimUseS := ⟨⟨Tryz.f127, Tryz.func127, by kernel_rfl, rfl, rfl, by kernel_rfl⟩, by kernel_rfl⟩
def phiL_laws_markClaimUseS (N : Nat) : List (Nat × Summ) := [(155, sm_laws_markText N)]
def sg_laws_markClaimUseS : Summ := sigOf [.ow 82 tUse none, .d tInt false] true [.d tInt false]
def S_laws_markClaimUseS_0 (k1 : Int) (i5 : Int) (apa : List Use) : St := { fr := [(0, AV.w (V1.one (C.arr 400000))), (1, AV.w (V1.one (C.v tInt k1))), (5, AV.w (V1.one (C.v tInt i5)))], H := [(400000, Ob.arr 82 tUse apa)] }
noncomputable def E_laws_markClaimUseS (N : Nat) : Env := envOf (tabOf tabL) (tabS (phiL_laws_markClaimUseS N)) inl0 N fi_laws_markClaimUseS [400000]
noncomputable def K_laws_markClaimUseS := (kFun (tabOf tabL) fi_laws_markClaimUseS.res (kT (ofDs [tInt, .slice tUse]) sg_laws_markClaimUseS [(400000, .ow 82 tUse none)]))
noncomputable def its_laws_markClaimUseS_0 (N : Nat) (n : Nat) : St → Option (Int × List Use) := fun S' => iter [400000] (annAt fi_laws_markClaimUseS 0) (code (E_laws_markClaimUseS N) (lpIn fi_laws_markClaimUseS.body 0 0) 0) n S' (contOf (E_laws_markClaimUseS N) fi_laws_markClaimUseS.body 0 0 K_laws_markClaimUseS)
noncomputable def it_laws_markClaimUseS_0 (N : Nat) (n : Nat) : Int → Int → (List Use) → Option (Int × List Use) := fun k1 i5 apa => its_laws_markClaimUseS_0 N n (S_laws_markClaimUseS_0 k1 i5 apa)
theorem fe_laws_markClaimUseS_0 (N : Nat) : it_laws_markClaimUseS_0 N = laws_markClaimUseS_0 N := funext (lp_all (by kernel_rfl) fun n => by
    show _ = laws_markClaimUseS_0r N (it_laws_markClaimUseS_0 N n)
    kernel_rfl)
theorem run_laws_markClaimUseS (N : Nat) (a : List ((List UInt8) × ((Int) × (Int)))) (k0 : Int) : runST (ofDs [tInt, .slice tUse]) (tabOf tabL) (tabS (phiL_laws_markClaimUseS N)) inl0 N fi_laws_markClaimUseS sg_laws_markClaimUseS [⟨.slice tUse, a⟩, ⟨tInt, k0⟩] = F.laws_markClaimUseS N a k0 := by
    show _ = F.laws_markClaimUseSb N (F.laws_markClaimUseS_0 N) a k0
    rw [← fe_laws_markClaimUseS_0 N]
    kernel_rfl
def sm_laws_markClaimUseS (N : Nat) : Summ := summOf [.ow 82 tUse none, .d tInt false] true [.d tInt false] [tInt, .slice tUse] (F.laws_markClaimUseS N)
theorem con_laws_markClaimUseS (N : Nat) : Contract Tryz.prog 127 (sm_laws_markClaimUseS N) := con_of (N := N) tabOK mixed (callOK_list (l := phiL_laws_markClaimUseS N) (allc rfl (con_laws_markText N) trivial)) (inl0_ok _) ok_laws_markClaimUseS (by decide) fun a k0 => run_laws_markClaimUseS N a k0
def an_laws_markClaimPartS : Nat → Option Ann
  | 0 => some ⟨{ fr := [(0, Dir.keep), (1, Dir.keep), (5, Dir.keep)], bx := [], os := [400000] }, [(0, { fr := [(1, Dir.keep)], bx := [], os := [400000] })], ⟨[], [], []⟩⟩
  | _ => none
noncomputable def fi_laws_markClaimPartS : FI := ⟨Tryz.f94.results.toList, bodyOf Tryz.f94.body, Tryz.f94.ntmps, an_laws_markClaimPartS⟩
theorem ok_laws_markClaimPartS : FnOK Tryz.prog 94 fi_laws_markClaimPartS := ⟨⟨Tryz.f94, Tryz.func94, by kernel_rfl, rfl, rfl, by kernel_rfl⟩, by kernel_rfl⟩
def phiL_laws_markClaimPartS (N : Nat) : List (Nat × Summ) := [(93, sm_laws_markStringS N), (127, sm_laws_markClaimUseS N)]
def sg_laws_markClaimPartS : Summ := sigOf [.ow 94 tPart (some [9, 82, 9, 9]), .d tInt false] true [.d tInt false]
def S_laws_markClaimPartS_0 (k1 : Int) (i5 : Int) (apa : List Part) : St := { fr := [(0, AV.w (V1.one (C.arr 400000))), (1, AV.w (V1.one (C.v tInt k1))), (5, AV.w (V1.one (C.v tInt i5)))], H := [(400000, Ob.arr 94 tPart apa (Dp.yes [9, 82, 9, 9]))] }
noncomputable def E_laws_markClaimPartS (N : Nat) : Env := envOf (tabOf tabL) (tabS (phiL_laws_markClaimPartS N)) inl0 N fi_laws_markClaimPartS [400000]
noncomputable def K_laws_markClaimPartS := (kFun (tabOf tabL) fi_laws_markClaimPartS.res (kT (ofDs [tInt, .slice tPart]) sg_laws_markClaimPartS [(400000, .ow 94 tPart (some [9, 82, 9, 9]))]))
noncomputable def its_laws_markClaimPartS_0 (N : Nat) (n : Nat) : St → Option (Int × List Part) := fun S' => iter [400000] (annAt fi_laws_markClaimPartS 0) (code (E_laws_markClaimPartS N) (lpIn fi_laws_markClaimPartS.body 0 0) 0) n S' (contOf (E_laws_markClaimPartS N) fi_laws_markClaimPartS.body 0 0 K_laws_markClaimPartS)
noncomputable def it_laws_markClaimPartS_0 (N : Nat) (n : Nat) : Int → Int → (List Part) → Option (Int × List Part) := fun k1 i5 apa => its_laws_markClaimPartS_0 N n (S_laws_markClaimPartS_0 k1 i5 apa)
theorem fe_laws_markClaimPartS_0 (N : Nat) : it_laws_markClaimPartS_0 N = laws_markClaimPartS_0 N := funext (lp_all (by kernel_rfl) fun n => by
    show _ = laws_markClaimPartS_0r N (it_laws_markClaimPartS_0 N n)
    kernel_rfl)
theorem run_laws_markClaimPartS (N : Nat) (a : List (((Int) × ((Int) × ((List Txt) × ((List ((List UInt8) × ((Int) × (Int)))) × ((List Txt) × (List Txt)))))) × (Bool))) (k0 : Int) : runST (ofDs [tInt, .slice tPart]) (tabOf tabL) (tabS (phiL_laws_markClaimPartS N)) inl0 N fi_laws_markClaimPartS sg_laws_markClaimPartS [⟨.slice tPart, a⟩, ⟨tInt, k0⟩] = F.laws_markClaimPartS N a k0 := by
    show _ = F.laws_markClaimPartSb N (F.laws_markClaimPartS_0 N) a k0
    rw [← fe_laws_markClaimPartS_0 N]
    kernel_rfl
def sm_laws_markClaimPartS (N : Nat) : Summ := summOf [.ow 94 tPart (some [9, 82, 9, 9]), .d tInt false] true [.d tInt false] [tInt, .slice tPart] (F.laws_markClaimPartS N)
theorem con_laws_markClaimPartS (N : Nat) : Contract Tryz.prog 94 (sm_laws_markClaimPartS N) := con_of (N := N) tabOK mixed (callOK_list (l := phiL_laws_markClaimPartS N) (allc rfl (con_laws_markStringS N) (allc rfl (con_laws_markClaimUseS N) trivial))) (inl0_ok _) ok_laws_markClaimPartS (by decide) fun a k0 => run_laws_markClaimPartS N a k0
def an_laws_markClaimBook : Nat → Option Ann := fun _ => none
noncomputable def fi_laws_markClaimBook : FI := ⟨Tryz.f27.results.toList, bodyOf Tryz.f27.body, Tryz.f27.ntmps, an_laws_markClaimBook⟩
theorem ok_laws_markClaimBook : FnOK Tryz.prog 27 fi_laws_markClaimBook := ⟨⟨Tryz.f27, Tryz.func27, by kernel_rfl, rfl, rfl, by kernel_rfl⟩, by kernel_rfl⟩
def phiL_laws_markClaimBook (N : Nat) : List (Nat × Summ) := [(91, sm_laws_markClaimFoeS N), (92, sm_laws_markClaimSpotS N), (93, sm_laws_markStringS N), (94, sm_laws_markClaimPartS N)]
def sg_laws_markClaimBook : Summ := sigOf [.sp [.ow 106 tFoe none, .ow 34 tSpot (some [9]), .ow 9 (.str) none, .ow 94 tPart (some [9, 82, 9, 9]), .dd tInt], .d tInt false] true [.d tInt false]
theorem run_laws_markClaimBook (N : Nat) (a0 : List ((List UInt8) × (List UInt8))) (a1 : List ((List UInt8) × ((Int) × ((Int) × ((Int) × (List Txt)))))) (a2 : List (List UInt8)) (a3 : List (((Int) × ((Int) × ((List Txt) × ((List ((List UInt8) × ((Int) × (Int)))) × ((List Txt) × (List Txt)))))) × (Bool))) (a4 : Int) (k0 : Int) : runST (ofDs [tInt, .slice tFoe, .slice tSpot, tTxts, .slice tPart]) (tabOf tabL) (tabS (phiL_laws_markClaimBook N)) inl0 N fi_laws_markClaimBook sg_laws_markClaimBook [⟨.slice tFoe, a0⟩, ⟨.slice tSpot, a1⟩, ⟨tTxts, a2⟩, ⟨.slice tPart, a3⟩, ⟨tInt, a4⟩, ⟨tInt, k0⟩] = F.laws_markClaimBook N a0 a1 a2 a3 a4 k0 := by kernel_rfl
def sm_laws_markClaimBook (N : Nat) : Summ := summOf [.sp [.ow 106 tFoe none, .ow 34 tSpot (some [9]), .ow 9 (.str) none, .ow 94 tPart (some [9, 82, 9, 9]), .dd tInt], .d tInt false] true [.d tInt false] [tInt, .slice tFoe, .slice tSpot, tTxts, .slice tPart] (F.laws_markClaimBook N)
theorem con_laws_markClaimBook (N : Nat) : Contract Tryz.prog 27 (sm_laws_markClaimBook N) := con_of (N := N) tabOK mixed (callOK_list (l := phiL_laws_markClaimBook N) (allc rfl (con_laws_markClaimFoeS N) (allc rfl (con_laws_markClaimSpotS N) (allc rfl (con_laws_markStringS N) (allc rfl (con_laws_markClaimPartS N) trivial))))) (inl0_ok _) ok_laws_markClaimBook (by decide) fun a0 a1 a2 a3 a4 k0 => run_laws_markClaimBook N a0 a1 a2 a3 a4 k0
def an_laws_markClaimWant : Nat → Option Ann := fun _ => none
noncomputable def fi_laws_markClaimWant : FI := ⟨Tryz.f49.results.toList, bodyOf Tryz.f49.body, Tryz.f49.ntmps, an_laws_markClaimWant⟩
theorem ok_laws_markClaimWant : FnOK Tryz.prog 49 fi_laws_markClaimWant := ⟨⟨Tryz.f49, Tryz.func49, by kernel_rfl, rfl, rfl, by kernel_rfl⟩, by kernel_rfl⟩
def phiL_laws_markClaimWant (N : Nat) : List (Nat × Summ) := [(93, sm_laws_markStringS N), (127, sm_laws_markClaimUseS N)]
def sg_laws_markClaimWant : Summ := sigOf [.sp [.dd tInt, .dd tInt, .ow 9 (.str) none, .ow 82 tUse none, .ow 9 (.str) none, .ow 9 (.str) none], .d tInt false] true [.d tInt false]
theorem run_laws_markClaimWant (N : Nat) (a0 : Int) (a1 : Int) (a2 : List (List UInt8)) (a3 : List ((List UInt8) × ((Int) × (Int)))) (a4 : List (List UInt8)) (a5 : List (List UInt8)) (k0 : Int) : runST (ofDs [tInt, tTxts, .slice tUse, tTxts, tTxts]) (tabOf tabL) (tabS (phiL_laws_markClaimWant N)) inl0 N fi_laws_markClaimWant sg_laws_markClaimWant [⟨tInt, a0⟩, ⟨tInt, a1⟩, ⟨tTxts, a2⟩, ⟨.slice tUse, a3⟩, ⟨tTxts, a4⟩, ⟨tTxts, a5⟩, ⟨tInt, k0⟩] = F.laws_markClaimWant N a0 a1 a2 a3 a4 a5 k0 := by kernel_rfl
def sm_laws_markClaimWant (N : Nat) : Summ := summOf [.sp [.dd tInt, .dd tInt, .ow 9 (.str) none, .ow 82 tUse none, .ow 9 (.str) none, .ow 9 (.str) none], .d tInt false] true [.d tInt false] [tInt, tTxts, .slice tUse, tTxts, tTxts] (F.laws_markClaimWant N)
theorem con_laws_markClaimWant (N : Nat) : Contract Tryz.prog 49 (sm_laws_markClaimWant N) := con_of (N := N) tabOK mixed (callOK_list (l := phiL_laws_markClaimWant N) (allc rfl (con_laws_markStringS N) (allc rfl (con_laws_markClaimUseS N) trivial))) (inl0_ok _) ok_laws_markClaimWant (by decide) fun a0 a1 a2 a3 a4 a5 k0 => run_laws_markClaimWant N a0 a1 a2 a3 a4 a5 k0
def an_laws_heldClaimFoeS : Nat → Option Ann
  | 0 => some ⟨{ fr := [(0, Dir.keep), (1, Dir.keep), (5, Dir.keep)], bx := [], os := [] }, [(0, { fr := [(1, Dir.keep)], bx := [], os := [] })], { fr := [(4, Dir.keep)], bx := [], os := [] }⟩
  | _ => none
noncomputable def fi_laws_heldClaimFoeS : FI := ⟨Tryz.f95.results.toList, bodyOf Tryz.f95.body, Tryz.f95.ntmps, an_laws_heldClaimFoeS⟩
theorem ok_laws_heldClaimFoeS : FnOK Tryz.prog 95 fi_laws_heldClaimFoeS := ⟨⟨Tryz.f95, Tryz.func95, by kernel_rfl, rfl, rfl, by kernel_rfl⟩, by kernel_rfl⟩
def phiL_laws_heldClaimFoeS (N : Nat) : List (Nat × Summ) := [(155, sm_laws_markText N)]
def sg_laws_heldClaimFoeS : Summ := sigOf [.d (.slice tFoe) false, .d tInt false] false [.d tInt false]
def S_laws_heldClaimFoeS_0 (a : List Foe) (k1 : Int) (i5 : Int) : St := { fr := [(0, AV.w (V1.one (C.v tFoe.slice a))), (1, AV.w (V1.one (C.v tInt k1))), (5, AV.w (V1.one (C.v tInt i5)))], H := [] }
noncomputable def E_laws_heldClaimFoeS (N : Nat) : Env := envOf (tabOf tabL) (tabS (phiL_laws_heldClaimFoeS N)) inl0 N fi_laws_heldClaimFoeS []
noncomputable def K_laws_heldClaimFoeS := (kFun (tabOf tabL) fi_laws_heldClaimFoeS.res (kT (ofDs [tInt]) sg_laws_heldClaimFoeS []))
noncomputable def its_laws_heldClaimFoeS_0 (N : Nat) (n : Nat) : St → Option Int := fun S' => iter [] (annAt fi_laws_heldClaimFoeS 0) (code (E_laws_heldClaimFoeS N) (lpIn fi_laws_heldClaimFoeS.body 0 0) 0) n S' (contOf (E_laws_heldClaimFoeS N) fi_laws_heldClaimFoeS.body 0 0 K_laws_heldClaimFoeS)
noncomputable def it_laws_heldClaimFoeS_0 (N : Nat) (a : List Foe) (n : Nat) : Int → Int → Option Int := fun k1 i5 => its_laws_heldClaimFoeS_0 N n (S_laws_heldClaimFoeS_0 a k1 i5)
theorem fe_laws_heldClaimFoeS_0 (N : Nat) : it_laws_heldClaimFoeS_0 N = laws_heldClaimFoeS_0 N := funext fun a => funext (lp_all (by kernel_rfl) fun n => by
    show _ = laws_heldClaimFoeS_0r N a (it_laws_heldClaimFoeS_0 N a n)
    kernel_rfl)
theorem run_laws_heldClaimFoeS (N : Nat) (a : List ((List UInt8) × (List UInt8))) (k0 : Int) : runST (ofDs [tInt]) (tabOf tabL) (tabS (phiL_laws_heldClaimFoeS N)) inl0 N fi_laws_heldClaimFoeS sg_laws_heldClaimFoeS [⟨.slice tFoe, a⟩, ⟨tInt, k0⟩] = F.laws_heldClaimFoeS N a k0 := by
    show _ = F.laws_heldClaimFoeSb N (F.laws_heldClaimFoeS_0 N) a k0
    rw [← fe_laws_heldClaimFoeS_0 N]
    kernel_rfl
def sm_laws_heldClaimFoeS (N : Nat) : Summ := summOf [.d (.slice tFoe) false, .d tInt false] false [.d tInt false] [tInt] (F.laws_heldClaimFoeS N)
theorem con_laws_heldClaimFoeS (N : Nat) : Contract Tryz.prog 95 (sm_laws_heldClaimFoeS N) := con_of (N := N) tabOK mixed (callOK_list (l := phiL_laws_heldClaimFoeS N) (allc rfl (con_laws_markText N) trivial)) (inl0_ok _) ok_laws_heldClaimFoeS (by decide) fun a k0 => run_laws_heldClaimFoeS N a k0
def an_laws_heldStringS : Nat → Option Ann
  | 0 => some ⟨{ fr := [(0, Dir.keep), (1, Dir.keep), (5, Dir.keep)], bx := [], os := [] }, [(0, { fr := [(1, Dir.keep)], bx := [], os := [] })], { fr := [(4, Dir.keep)], bx := [], os := [] }⟩
  | _ => none
noncomputable def fi_laws_heldStringS : FI := ⟨Tryz.f97.results.toList, bodyOf Tryz.f97.body, Tryz.f97.ntmps, an_laws_heldStringS⟩
theorem ok_laws_heldStringS : FnOK Tryz.prog 97 fi_laws_heldStringS := ⟨⟨Tryz.f97, Tryz.func97, by kernel_rfl, rfl, rfl, by kernel_rfl⟩, by kernel_rfl⟩
def phiL_laws_heldStringS (N : Nat) : List (Nat × Summ) := [(155, sm_laws_markText N)]
def sg_laws_heldStringS : Summ := sigOf [.d tTxts false, .d tInt false] false [.d tInt false]
def S_laws_heldStringS_0 (a : List Txt) (k1 : Int) (i5 : Int) : St := { fr := [(0, AV.w (V1.one (C.v tTxts a))), (1, AV.w (V1.one (C.v tInt k1))), (5, AV.w (V1.one (C.v tInt i5)))], H := [] }
noncomputable def E_laws_heldStringS (N : Nat) : Env := envOf (tabOf tabL) (tabS (phiL_laws_heldStringS N)) inl0 N fi_laws_heldStringS []
noncomputable def K_laws_heldStringS := (kFun (tabOf tabL) fi_laws_heldStringS.res (kT (ofDs [tInt]) sg_laws_heldStringS []))
noncomputable def its_laws_heldStringS_0 (N : Nat) (n : Nat) : St → Option Int := fun S' => iter [] (annAt fi_laws_heldStringS 0) (code (E_laws_heldStringS N) (lpIn fi_laws_heldStringS.body 0 0) 0) n S' (contOf (E_laws_heldStringS N) fi_laws_heldStringS.body 0 0 K_laws_heldStringS)
noncomputable def it_laws_heldStringS_0 (N : Nat) (a : List Txt) (n : Nat) : Int → Int → Option Int := fun k1 i5 => its_laws_heldStringS_0 N n (S_laws_heldStringS_0 a k1 i5)
theorem fe_laws_heldStringS_0 (N : Nat) : it_laws_heldStringS_0 N = laws_heldStringS_0 N := funext fun a => funext (lp_all (by kernel_rfl) fun n => by
    show _ = laws_heldStringS_0r N a (it_laws_heldStringS_0 N a n)
    kernel_rfl)
theorem run_laws_heldStringS (N : Nat) (a : List (List UInt8)) (k0 : Int) : runST (ofDs [tInt]) (tabOf tabL) (tabS (phiL_laws_heldStringS N)) inl0 N fi_laws_heldStringS sg_laws_heldStringS [⟨tTxts, a⟩, ⟨tInt, k0⟩] = F.laws_heldStringS N a k0 := by
    show _ = F.laws_heldStringSb N (F.laws_heldStringS_0 N) a k0
    rw [← fe_laws_heldStringS_0 N]
    kernel_rfl
def sm_laws_heldStringS (N : Nat) : Summ := summOf [.d tTxts false, .d tInt false] false [.d tInt false] [tInt] (F.laws_heldStringS N)
theorem con_laws_heldStringS (N : Nat) : Contract Tryz.prog 97 (sm_laws_heldStringS N) := con_of (N := N) tabOK mixed (callOK_list (l := phiL_laws_heldStringS N) (allc rfl (con_laws_markText N) trivial)) (inl0_ok _) ok_laws_heldStringS (by decide) fun a k0 => run_laws_heldStringS N a k0
def an_laws_heldClaimSpotS : Nat → Option Ann
  | 0 => some ⟨{ fr := [(0, Dir.keep), (1, Dir.keep), (5, Dir.keep)], bx := [], os := [] }, [(0, { fr := [(1, Dir.keep)], bx := [], os := [] })], { fr := [(4, Dir.keep)], bx := [], os := [] }⟩
  | _ => none
noncomputable def fi_laws_heldClaimSpotS : FI := ⟨Tryz.f96.results.toList, bodyOf Tryz.f96.body, Tryz.f96.ntmps, an_laws_heldClaimSpotS⟩
theorem ok_laws_heldClaimSpotS : FnOK Tryz.prog 96 fi_laws_heldClaimSpotS := ⟨⟨Tryz.f96, Tryz.func96, by kernel_rfl, rfl, rfl, by kernel_rfl⟩, by kernel_rfl⟩
def phiL_laws_heldClaimSpotS (N : Nat) : List (Nat × Summ) := [(155, sm_laws_markText N), (97, sm_laws_heldStringS N)]
def sg_laws_heldClaimSpotS : Summ := sigOf [.d (.slice tSpot) false, .d tInt false] false [.d tInt false]
def S_laws_heldClaimSpotS_0 (a : List Spot) (k1 : Int) (i5 : Int) : St := { fr := [(0, AV.w (V1.one (C.v tSpot.slice a))), (1, AV.w (V1.one (C.v tInt k1))), (5, AV.w (V1.one (C.v tInt i5)))], H := [] }
noncomputable def E_laws_heldClaimSpotS (N : Nat) : Env := envOf (tabOf tabL) (tabS (phiL_laws_heldClaimSpotS N)) inl0 N fi_laws_heldClaimSpotS []
noncomputable def K_laws_heldClaimSpotS := (kFun (tabOf tabL) fi_laws_heldClaimSpotS.res (kT (ofDs [tInt]) sg_laws_heldClaimSpotS []))
noncomputable def its_laws_heldClaimSpotS_0 (N : Nat) (n : Nat) : St → Option Int := fun S' => iter [] (annAt fi_laws_heldClaimSpotS 0) (code (E_laws_heldClaimSpotS N) (lpIn fi_laws_heldClaimSpotS.body 0 0) 0) n S' (contOf (E_laws_heldClaimSpotS N) fi_laws_heldClaimSpotS.body 0 0 K_laws_heldClaimSpotS)
noncomputable def it_laws_heldClaimSpotS_0 (N : Nat) (a : List Spot) (n : Nat) : Int → Int → Option Int := fun k1 i5 => its_laws_heldClaimSpotS_0 N n (S_laws_heldClaimSpotS_0 a k1 i5)
theorem fe_laws_heldClaimSpotS_0 (N : Nat) : it_laws_heldClaimSpotS_0 N = laws_heldClaimSpotS_0 N := funext fun a => funext (lp_all (by kernel_rfl) fun n => by
    show _ = laws_heldClaimSpotS_0r N a (it_laws_heldClaimSpotS_0 N a n)
    kernel_rfl)
theorem run_laws_heldClaimSpotS (N : Nat) (a : List ((List UInt8) × ((Int) × ((Int) × ((Int) × (List Txt)))))) (k0 : Int) : runST (ofDs [tInt]) (tabOf tabL) (tabS (phiL_laws_heldClaimSpotS N)) inl0 N fi_laws_heldClaimSpotS sg_laws_heldClaimSpotS [⟨.slice tSpot, a⟩, ⟨tInt, k0⟩] = F.laws_heldClaimSpotS N a k0 := by
    show _ = F.laws_heldClaimSpotSb N (F.laws_heldClaimSpotS_0 N) a k0
    rw [← fe_laws_heldClaimSpotS_0 N]
    kernel_rfl
def sm_laws_heldClaimSpotS (N : Nat) : Summ := summOf [.d (.slice tSpot) false, .d tInt false] false [.d tInt false] [tInt] (F.laws_heldClaimSpotS N)
theorem con_laws_heldClaimSpotS (N : Nat) : Contract Tryz.prog 96 (sm_laws_heldClaimSpotS N) := con_of (N := N) tabOK mixed (callOK_list (l := phiL_laws_heldClaimSpotS N) (allc rfl (con_laws_markText N) (allc rfl (con_laws_heldStringS N) trivial))) (inl0_ok _) ok_laws_heldClaimSpotS (by decide) fun a k0 => run_laws_heldClaimSpotS N a k0
def an_laws_heldClaimUseS : Nat → Option Ann
  | 0 => some ⟨{ fr := [(0, Dir.keep), (1, Dir.keep), (5, Dir.keep)], bx := [], os := [] }, [(0, { fr := [(1, Dir.keep)], bx := [], os := [] })], { fr := [(4, Dir.keep)], bx := [], os := [] }⟩
  | _ => none
noncomputable def fi_laws_heldClaimUseS : FI := ⟨Tryz.f156.results.toList, bodyOf Tryz.f156.body, Tryz.f156.ntmps, an_laws_heldClaimUseS⟩
theorem ok_laws_heldClaimUseS : FnOK Tryz.prog 156 fi_laws_heldClaimUseS := ⟨⟨Tryz.f156, Tryz.func156, by kernel_rfl, rfl, rfl, by kernel_rfl⟩, by kernel_rfl⟩
def phiL_laws_heldClaimUseS (N : Nat) : List (Nat × Summ) := [(155, sm_laws_markText N)]
def sg_laws_heldClaimUseS : Summ := sigOf [.d (.slice tUse) false, .d tInt false] false [.d tInt false]
def S_laws_heldClaimUseS_0 (a : List Use) (k1 : Int) (i5 : Int) : St := { fr := [(0, AV.w (V1.one (C.v tUse.slice a))), (1, AV.w (V1.one (C.v tInt k1))), (5, AV.w (V1.one (C.v tInt i5)))], H := [] }
noncomputable def E_laws_heldClaimUseS (N : Nat) : Env := envOf (tabOf tabL) (tabS (phiL_laws_heldClaimUseS N)) inl0 N fi_laws_heldClaimUseS []
noncomputable def K_laws_heldClaimUseS := (kFun (tabOf tabL) fi_laws_heldClaimUseS.res (kT (ofDs [tInt]) sg_laws_heldClaimUseS []))
noncomputable def its_laws_heldClaimUseS_0 (N : Nat) (n : Nat) : St → Option Int := fun S' => iter [] (annAt fi_laws_heldClaimUseS 0) (code (E_laws_heldClaimUseS N) (lpIn fi_laws_heldClaimUseS.body 0 0) 0) n S' (contOf (E_laws_heldClaimUseS N) fi_laws_heldClaimUseS.body 0 0 K_laws_heldClaimUseS)
noncomputable def it_laws_heldClaimUseS_0 (N : Nat) (a : List Use) (n : Nat) : Int → Int → Option Int := fun k1 i5 => its_laws_heldClaimUseS_0 N n (S_laws_heldClaimUseS_0 a k1 i5)
theorem fe_laws_heldClaimUseS_0 (N : Nat) : it_laws_heldClaimUseS_0 N = laws_heldClaimUseS_0 N := funext fun a => funext (lp_all (by kernel_rfl) fun n => by
    show _ = laws_heldClaimUseS_0r N a (it_laws_heldClaimUseS_0 N a n)
    kernel_rfl)
theorem run_laws_heldClaimUseS (N : Nat) (a : List ((List UInt8) × ((Int) × (Int)))) (k0 : Int) : runST (ofDs [tInt]) (tabOf tabL) (tabS (phiL_laws_heldClaimUseS N)) inl0 N fi_laws_heldClaimUseS sg_laws_heldClaimUseS [⟨.slice tUse, a⟩, ⟨tInt, k0⟩] = F.laws_heldClaimUseS N a k0 := by
    show _ = F.laws_heldClaimUseSb N (F.laws_heldClaimUseS_0 N) a k0
    rw [← fe_laws_heldClaimUseS_0 N]
    kernel_rfl
def sm_laws_heldClaimUseS (N : Nat) : Summ := summOf [.d (.slice tUse) false, .d tInt false] false [.d tInt false] [tInt] (F.laws_heldClaimUseS N)
theorem con_laws_heldClaimUseS (N : Nat) : Contract Tryz.prog 156 (sm_laws_heldClaimUseS N) := con_of (N := N) tabOK mixed (callOK_list (l := phiL_laws_heldClaimUseS N) (allc rfl (con_laws_markText N) trivial)) (inl0_ok _) ok_laws_heldClaimUseS (by decide) fun a k0 => run_laws_heldClaimUseS N a k0
def an_laws_heldClaimPartS : Nat → Option Ann
  | 0 => some ⟨{ fr := [(0, Dir.keep), (1, Dir.keep), (5, Dir.keep)], bx := [], os := [] }, [(0, { fr := [(1, Dir.keep)], bx := [], os := [] })], { fr := [(4, Dir.keep)], bx := [], os := [] }⟩
  | _ => none
noncomputable def fi_laws_heldClaimPartS : FI := ⟨Tryz.f98.results.toList, bodyOf Tryz.f98.body, Tryz.f98.ntmps, an_laws_heldClaimPartS⟩
theorem ok_laws_heldClaimPartS : FnOK Tryz.prog 98 fi_laws_heldClaimPartS := ⟨⟨Tryz.f98, Tryz.func98, by kernel_rfl, rfl, rfl, by kernel_rfl⟩, by kernel_rfl⟩
def phiL_laws_heldClaimPartS (N : Nat) : List (Nat × Summ) := [(97, sm_laws_heldStringS N), (156, sm_laws_heldClaimUseS N)]
def sg_laws_heldClaimPartS : Summ := sigOf [.d (.slice tPart) false, .d tInt false] false [.d tInt false]
def S_laws_heldClaimPartS_0 (a : List Part) (k1 : Int) (i5 : Int) : St := { fr := [(0, AV.w (V1.one (C.v tPart.slice a))), (1, AV.w (V1.one (C.v tInt k1))), (5, AV.w (V1.one (C.v tInt i5)))], H := [] }
noncomputable def E_laws_heldClaimPartS (N : Nat) : Env := envOf (tabOf tabL) (tabS (phiL_laws_heldClaimPartS N)) inl0 N fi_laws_heldClaimPartS []
noncomputable def K_laws_heldClaimPartS := (kFun (tabOf tabL) fi_laws_heldClaimPartS.res (kT (ofDs [tInt]) sg_laws_heldClaimPartS []))
noncomputable def its_laws_heldClaimPartS_0 (N : Nat) (n : Nat) : St → Option Int := fun S' => iter [] (annAt fi_laws_heldClaimPartS 0) (code (E_laws_heldClaimPartS N) (lpIn fi_laws_heldClaimPartS.body 0 0) 0) n S' (contOf (E_laws_heldClaimPartS N) fi_laws_heldClaimPartS.body 0 0 K_laws_heldClaimPartS)
noncomputable def it_laws_heldClaimPartS_0 (N : Nat) (a : List Part) (n : Nat) : Int → Int → Option Int := fun k1 i5 => its_laws_heldClaimPartS_0 N n (S_laws_heldClaimPartS_0 a k1 i5)
theorem fe_laws_heldClaimPartS_0 (N : Nat) : it_laws_heldClaimPartS_0 N = laws_heldClaimPartS_0 N := funext fun a => funext (lp_all (by kernel_rfl) fun n => by
    show _ = laws_heldClaimPartS_0r N a (it_laws_heldClaimPartS_0 N a n)
    kernel_rfl)
theorem run_laws_heldClaimPartS (N : Nat) (a : List (((Int) × ((Int) × ((List Txt) × ((List ((List UInt8) × ((Int) × (Int)))) × ((List Txt) × (List Txt)))))) × (Bool))) (k0 : Int) : runST (ofDs [tInt]) (tabOf tabL) (tabS (phiL_laws_heldClaimPartS N)) inl0 N fi_laws_heldClaimPartS sg_laws_heldClaimPartS [⟨.slice tPart, a⟩, ⟨tInt, k0⟩] = F.laws_heldClaimPartS N a k0 := by
    show _ = F.laws_heldClaimPartSb N (F.laws_heldClaimPartS_0 N) a k0
    rw [← fe_laws_heldClaimPartS_0 N]
    kernel_rfl
def sm_laws_heldClaimPartS (N : Nat) : Summ := summOf [.d (.slice tPart) false, .d tInt false] false [.d tInt false] [tInt] (F.laws_heldClaimPartS N)
theorem con_laws_heldClaimPartS (N : Nat) : Contract Tryz.prog 98 (sm_laws_heldClaimPartS N) := con_of (N := N) tabOK mixed (callOK_list (l := phiL_laws_heldClaimPartS N) (allc rfl (con_laws_heldStringS N) (allc rfl (con_laws_heldClaimUseS N) trivial))) (inl0_ok _) ok_laws_heldClaimPartS (by decide) fun a k0 => run_laws_heldClaimPartS N a k0
def an_laws_heldClaimBook : Nat → Option Ann := fun _ => none
noncomputable def fi_laws_heldClaimBook : FI := ⟨Tryz.f28.results.toList, bodyOf Tryz.f28.body, Tryz.f28.ntmps, an_laws_heldClaimBook⟩
theorem ok_laws_heldClaimBook : FnOK Tryz.prog 28 fi_laws_heldClaimBook := ⟨⟨Tryz.f28, Tryz.func28, by kernel_rfl, rfl, rfl, by kernel_rfl⟩, by kernel_rfl⟩
def phiL_laws_heldClaimBook (N : Nat) : List (Nat × Summ) := [(95, sm_laws_heldClaimFoeS N), (96, sm_laws_heldClaimSpotS N), (97, sm_laws_heldStringS N), (98, sm_laws_heldClaimPartS N)]
def sg_laws_heldClaimBook : Summ := sigOf [.d tBook true, .d tInt false] false [.d tInt false]
theorem run_laws_heldClaimBook (N : Nat) (a : (List ((List UInt8) × (List UInt8))) × ((List ((List UInt8) × ((Int) × ((Int) × ((Int) × (List Txt)))))) × ((List Txt) × ((List (((Int) × ((Int) × ((List Txt) × ((List ((List UInt8) × ((Int) × (Int)))) × ((List Txt) × (List Txt)))))) × (Bool))) × (Int))))) (k0 : Int) : runST (ofDs [tInt]) (tabOf tabL) (tabS (phiL_laws_heldClaimBook N)) inl0 N fi_laws_heldClaimBook sg_laws_heldClaimBook [⟨tBook, a⟩, ⟨tInt, k0⟩] = F.laws_heldClaimBook N a k0 := by kernel_rfl
def sm_laws_heldClaimBook (N : Nat) : Summ := summOf [.d tBook true, .d tInt false] false [.d tInt false] [tInt] (F.laws_heldClaimBook N)
theorem con_laws_heldClaimBook (N : Nat) : Contract Tryz.prog 28 (sm_laws_heldClaimBook N) := con_of (N := N) tabOK mixed (callOK_list (l := phiL_laws_heldClaimBook N) (allc rfl (con_laws_heldClaimFoeS N) (allc rfl (con_laws_heldClaimSpotS N) (allc rfl (con_laws_heldStringS N) (allc rfl (con_laws_heldClaimPartS N) trivial))))) (inl0_ok _) ok_laws_heldClaimBook (by decide) fun a k0 => run_laws_heldClaimBook N a k0
def an_laws_FnExactClaimGrant : Nat → Option Ann := fun _ => none
noncomputable def fi_laws_FnExactClaimGrant : FI := ⟨Tryz.f10.results.toList, bodyOf Tryz.f10.body, Tryz.f10.ntmps, an_laws_FnExactClaimGrant⟩
theorem ok_laws_FnExactClaimGrant : FnOK Tryz.prog 10 fi_laws_FnExactClaimGrant := ⟨⟨Tryz.f10, Tryz.func10, by kernel_rfl, rfl, rfl, by kernel_rfl⟩, by kernel_rfl⟩
def phiL_laws_FnExactClaimGrant (N : Nat) : List (Nat × Summ) := [(24, sm_laws_szClaimBook N), (37, sm_laws_szClaimWant N), (25, sm_laws_toClaimBook N), (39, sm_laws_toClaimWant N), (20, sm_spec_ClaimGrant N), (19, sm_impl_ClaimGrant N), (26, sm_laws_eqClaimBook N), (41, sm_laws_eqClaimWant N), (27, sm_laws_markClaimBook N), (49, sm_laws_markClaimWant N), (28, sm_laws_heldClaimBook N)]
def sg_laws_FnExactClaimGrant : Summ := sigOf [.d tBook true, .d tWant true] false [.d (.bool) false]
theorem run_laws_FnExactClaimGrant (N : Nat) (aB : (List ((List UInt8) × (List UInt8))) × ((List ((List UInt8) × ((Int) × ((Int) × ((Int) × (List Txt)))))) × ((List Txt) × ((List (((Int) × ((Int) × ((List Txt) × ((List ((List UInt8) × ((Int) × (Int)))) × ((List Txt) × (List Txt)))))) × (Bool))) × (Int))))) (aW : (Int) × ((Int) × ((List Txt) × ((List ((List UInt8) × ((Int) × (Int)))) × ((List Txt) × (List Txt)))))) : runST (ofDs [.bool]) (tabOf tabL) (tabS (phiL_laws_FnExactClaimGrant N)) inl0 N fi_laws_FnExactClaimGrant sg_laws_FnExactClaimGrant [⟨tBook, aB⟩, ⟨tWant, aW⟩] = F.laws_FnExactClaimGrant N aB aW := by kernel_rfl
def sm_laws_FnExactClaimGrant (N : Nat) : Summ := summOf [.d tBook true, .d tWant true] false [.d (.bool) false] [.bool] (F.laws_FnExactClaimGrant N)
theorem con_laws_FnExactClaimGrant (N : Nat) : Contract Tryz.prog 10 (sm_laws_FnExactClaimGrant N) := con_of (N := N) tabOK mixed (callOK_list (l := phiL_laws_FnExactClaimGrant N) (allc rfl (con_laws_szClaimBook N) (allc rfl (con_laws_szClaimWant N) (allc rfl (con_laws_toClaimBook N) (allc rfl (con_laws_toClaimWant N) (allc rfl (con_spec_ClaimGrant N) (allc rfl (con_impl_ClaimGrant N) (allc rfl (con_laws_eqClaimBook N) (allc rfl (con_laws_eqClaimWant N) (allc rfl (con_laws_markClaimBook N) (allc rfl (con_laws_markClaimWant N) (allc rfl (con_laws_heldClaimBook N) trivial)))))))))))) (inl0_ok _) ok_laws_FnExactClaimGrant (by decide) fun aB aW => run_laws_FnExactClaimGrant N aB aW
end
end Go.MC

/- Loops over lists, in plain Lean (general). -/
set_option linter.unusedVariables false
set_option linter.unusedSimpArgs false
namespace Go.MC

theorem lim_eq : lim = 140737488355328 := rfl
theorem wr {n : Int} (h1 : -9223372036854775808 ≤ n) (h2 : n ≤ 9223372036854775807) : IntKind.i64.wrap n = n := by
  rw [IntKind.wrap_i64]; omega
theorem wrS {i : Nat} (h : i ≤ 1000000000000000000) : IntKind.i64.wrap ((i : Int) + 1) = ((i + 1 : Nat) : Int) := by
  rw [wr (by omega) (by omega)]; omega
theorem wrP {i : Nat} (h : i ≤ 1000000000000000000) (h0 : 0 < i) : IntKind.i64.wrap ((i : Int) - 1) = ((i - 1 : Nat) : Int) := by
  rw [wr (by omega) (by omega)]; omega

theorem ob_eq {α ρ : Type} {o : Option α} {a d : α} {B : α → Option ρ} (h : o = some a) : ob o d B = B a := by rw [h]; rfl

theorem dlt {i n : Nat} (h : i < n) : decide ((i : Int) < (n : Int)) = true := decide_eq_true (by omega)
theorem dnlt (n : Nat) : decide ((n : Int) < (n : Int)) = false := decide_eq_false (by omega)
theorem dge (i : Nat) : decide ((0 : Int) ≤ (i : Int)) = true := decide_eq_true (by omega)
theorem gAt {α : Type} {l : List α} {i : Nat} (h : i < l.length) (d : α) : l.getD (Int.toNat (i : Int)) d = l[i] := by
  rw [Int.toNat_natCast, List.getD_eq_getElem?_getD, List.getElem?_eq_getElem h]; rfl
theorem gAt' {α : Type} {l : List α} {i : Nat} (d : α) : l.getD (Int.toNat (i : Int)) d = l.getD i d := by
  rw [Int.toNat_natCast]
/-- 'i > 0', and what stands ahead of it. -/
theorem dgt0 (i : Nat) : decide ((i : Int) > 0) = !(i == 0) := by
  cases i <;> simp

/-- Every element, with its place. -/
def allI {α : Type} (p : Nat → α → Bool) : Nat → List α → Bool
  | _, [] => true
  | i, x :: xs => p i x && allI p (i + 1) xs

theorem allI_congr {α : Type} {p q : Nat → α → Bool} : ∀ {l : List α} {i : Nat}, (∀ j x, l[j]? = some x → p (i + j) x = q (i + j) x) → allI p i l = allI q i l
  | [], _, _ => rfl
  | x :: xs, i, h => by
    simp only [allI]
    have h2 := allI_congr (p := p) (q := q) (l := xs) (i := i + 1) fun j y hj => by
      have := h (j + 1) y (by simpa using hj)
      rwa [show i + (j + 1) = i + 1 + j by omega] at this
    rw [show p i x = q i x from h 0 x rfl, h2]
theorem allI_iff {α : Type} {p : Nat → α → Bool} : ∀ {l : List α} {i : Nat}, allI p i l = true ↔ ∀ j x, l[j]? = some x → p (i + j) x = true
  | [], i => by simp [allI]
  | x :: xs, i => by
    simp only [allI, Bool.and_eq_true, allI_iff (l := xs)]
    constructor
    · rintro ⟨h1, h2⟩ j y hj
      cases j with
      | zero => simp at hj; subst hj; exact h1
      | succ j =>
        have := h2 j y (by simpa using hj)
        rwa [show i + 1 + j = i + (j + 1) by omega] at this
    · intro h
      refine ⟨h 0 x rfl, fun j y hj => ?_⟩
      have := h (j + 1) y (by simpa using hj)
      rwa [show i + (j + 1) = i + 1 + j by omega] at this
theorem allI_all {α : Type} {p : α → Bool} : ∀ {l : List α} {i : Nat}, allI (fun _ x => p x) i l = l.all p
  | [], _ => rfl
  | x :: xs, i => by simp only [allI, List.all_cons, allI_all]

/-- On with a state, or out. -/
def outW {σ ρ : Type} (fin : σ → Option ρ) : σ ⊕ Option ρ → Option ρ
  | .inl s => fin s
  | .inr r => r

/-- A loop over a list with a state; 'ap' hands the place and the state to the loop's function. -/
theorem lp_walk {α σ ρ F : Type} (l : List α) (ap : F → Nat → σ → Option ρ) (z : F) (rd : F → F) (f : Nat → σ → α → σ ⊕ Option ρ) (fin : σ → Option ρ) (Inv : Nat → σ → Prop)
    (hstep : ∀ (g : F) (i : Nat) (st : σ) (h : i < l.length), Inv i st → ap (rd g) i st = outW (fun st' => ap g (i + 1) st') (f i st l[i]) ∧ ∀ st', f i st l[i] = .inl st' → Inv (i + 1) st')
    (hend : ∀ (g : F) (st : σ), Inv l.length st → ap (rd g) l.length st = fin st) (N : Nat) (hN : l.length < N) (st : σ) (h0 : Inv 0 st) :
    ap (lp z rd N) 0 st = outW fin (walkL f 0 l st) := by
  suffices H : ∀ (m i n : Nat) (st : σ), l.length - i = m → i ≤ l.length → m < n → Inv i st → ap (lp z rd n) i st = outW fin (walkL f i (l.drop i) st) by
    have := H l.length 0 N st (by omega) (by omega) hN h0
    rwa [List.drop_zero] at this
  intro m
  induction m with
  | zero =>
    intro i n st h1 h2 h3 h4
    obtain ⟨n, rfl⟩ : ∃ j, n = j + 1 := ⟨n - 1, by omega⟩
    have hi : i = l.length := by omega
    subst hi
    rw [List.drop_length]
    exact hend _ st h4
  | succ m ih =>
    intro i n st h1 h2 h3 h4
    obtain ⟨n, rfl⟩ : ∃ j, n = j + 1 := ⟨n - 1, by omega⟩
    have hlt : i < l.length := by omega
    obtain ⟨h5, h6⟩ := hstep (lp z rd n) i st hlt h4
    rw [List.drop_eq_getElem_cons hlt]
    simp only [walkL]
    refine h5.trans ?_
    cases hf : f i st l[i] with
    | inl st' => exact ih (i + 1) n st' (by omega) (by omega) (by omega) (h6 st' hf)
    | inr r => rfl

/-- A loop that goes on as long as p holds. -/
theorem lp_allI {α ρ : Type} (l : List α) (rd : (Int → Option ρ) → Int → Option ρ) (p : Nat → α → Bool) (r fin : Option ρ)
    (hstep : ∀ (g : Int → Option ρ) (i : Nat) (h : i < l.length), rd g (i : Int) = bif p i l[i] then g ((i + 1 : Nat) : Int) else r)
    (hend : ∀ (g : Int → Option ρ), rd g (l.length : Int) = fin) (N : Nat) (hN : l.length < N) : lp (fun _ => none) rd N 0 = bif allI p 0 l then fin else r := by
  have := lp_walk l (fun (g : Int → Option ρ) i (_ : Unit) => g (i : Int)) (fun _ => none) rd (fun i _ x => bif p i x then .inl () else .inr r) (fun _ => fin) (fun _ _ => True)
    (fun g i st h _ => ⟨by
      rw [hstep g i h]
      cases p i l[i] <;> rfl, fun _ _ => trivial⟩) (fun g _ _ => hend g) N hN () trivial
  refine this.trans ?_
  have : ∀ (l : List α) i, outW (fun _ => fin) (walkL (fun i (_ : Unit) x => bif p i x then Sum.inl () else Sum.inr r) i l ()) = bif allI p i l then fin else r := by
    intro l
    induction l with
    | nil => intro i; rfl
    | cons x xs ih =>
      intro i
      simp only [walkL, allI]
      cases p i x with
      | true => simpa using ih (i + 1)
      | false => rfl
  exact this l 0

/-- A loop that fills a row. -/
theorem lp_set {α β : Type} {l : List α} {rd : (Int → List β → Option (List β)) → Int → List β → Option (List β)} (g : α → β)
    (hstep : ∀ (f : Int → List β → Option (List β)) (i : Nat) (out : List β) (h : i < l.length), out.length = l.length → rd f (i : Int) out = f ((i + 1 : Nat) : Int) (out.set i (g l[i])))
    (hend : ∀ (f : Int → List β → Option (List β)) (out : List β), rd f (l.length : Int) out = some out) {N : Nat} (hN : l.length < N) {out : List β} (ho : out.length = l.length) : lp (fun _ _ => none) rd N 0 out = some (l.map g) := by
  suffices H : ∀ (m i n : Nat) (out : List β), l.length - i = m → i ≤ l.length → m < n → out.length = l.length → lp (fun _ _ => none) rd n (i : Int) out = some (out.take i ++ (l.drop i).map g) by
    have := H l.length 0 N out (by omega) (by omega) hN ho
    simpa using this
  intro m
  induction m with
  | zero =>
    intro i n out h1 h2 h3 h4
    obtain ⟨n, rfl⟩ : ∃ j, n = j + 1 := ⟨n - 1, by omega⟩
    have hi : i = l.length := by omega
    subst hi
    refine (hend _ out).trans ?_
    rw [List.drop_length, List.take_of_length_le (by omega)]
    simp
  | succ m ih =>
    intro i n out h1 h2 h3 h4
    obtain ⟨n, rfl⟩ : ∃ j, n = j + 1 := ⟨n - 1, by omega⟩
    have hlt : i < l.length := by omega
    refine (hstep _ i out hlt h4).trans ((ih (i + 1) n _ (by omega) (by omega) (by omega) (by simpa using h4)).trans ?_)
    congr 1
    rw [List.take_add_one]
    have h5 : i < out.length := by omega
    have h6 : (out.set i (g l[i])).take i = out.take i := by
      rw [List.take_set]
      exact List.set_eq_of_length_le (by simp; omega)
    rw [h6, List.drop_eq_getElem_cons hlt]
    simp only [List.getElem?_set_self h5, List.map_cons, Option.toList_some, List.append_assoc, List.singleton_append]

end Go.MC

/- What the functions that ClaimWantOk reaches tell, in short words. -/
set_option linter.unusedVariables false
set_option linter.unusedSimpArgs false
namespace Go.MC
open Go.MC.F

/-! Sizes -/
def smT (s : Txt) : Prop := s.length ≤ 1048576
def smL (l : List Txt) : Prop := l.length ≤ 1048576 ∧ ∀ x ∈ l, smT x
def smU (u : Use) : Prop := smT u.1
def smW (w : Want) : Prop := smL w.2.2.1 ∧ (w.2.2.2.1.length ≤ 1048576 ∧ ∀ u ∈ w.2.2.2.1, smU u) ∧ smL w.2.2.2.2.1 ∧ smL w.2.2.2.2.2

/-- A loop that counts down what is left. -/
theorem sz_loop {α : Type} (l : List α) (hl : l.length ≤ lim) (e : α → Int → Int) (P : α → Prop) (rd : (Int → Int → Option Int) → Int → Int → Option Int)
    (he : ∀ x ∈ l, ∀ st : Int, 0 ≤ st → st ≤ 1048576 → e x st ≤ st ∧ -1 ≤ e x st ∧ (0 ≤ e x st → P x))
    (hstep : ∀ (g : Int → Int → Option Int) (i : Nat) (st : Int) (h : i < l.length), 0 ≤ st → st ≤ 1048576 → rd g st (i : Int) = if e l[i] st < 0 then some (-1) else g (e l[i] st) ((i + 1 : Nat) : Int))
    (hend : ∀ (g : Int → Int → Option Int) (st : Int), rd g st (l.length : Int) = some st) (N : Nat) (hN : l.length < N) (left : Int) (h0 : 0 ≤ left) (h1 : left ≤ 1048576) :
    ∃ r, lp (fun _ _ => none) rd N left 0 = some r ∧ r ≤ left ∧ -1 ≤ r ∧ (0 ≤ r → ∀ x ∈ l, P x) := by
  have h := lp_walk l (fun (g : Int → Int → Option Int) i (st : Int) => g st (i : Int)) (fun _ _ => none) rd (fun _ st x => if e x st < 0 then .inr (some (-1)) else .inl (e x st)) (fun st => some st) (fun _ st => 0 ≤ st ∧ st ≤ 1048576)
    (fun g i st h hi => ⟨by
      rw [hstep g i st h hi.1 hi.2]
      split <;> rfl, fun st' hs => by
      split at hs
      · cases hs
      · cases hs
        have := he _ (List.getElem_mem h) st hi.1 hi.2
        omega⟩) (fun g st _ => hend g st) N hN left ⟨h0, h1⟩
  have h : lp (fun _ _ => none) rd N left 0 = _ := h
  rw [h]
  clear h hstep hend
  suffices H : ∀ (l : List α) (i : Nat) (st : Int), (∀ x ∈ l, ∀ st : Int, 0 ≤ st → st ≤ 1048576 → e x st ≤ st ∧ -1 ≤ e x st ∧ (0 ≤ e x st → P x)) → 0 ≤ st → st ≤ 1048576 →
      ∃ r, outW (fun st => some st) (walkL (fun (_ : Nat) st x => if e x st < 0 then Sum.inr (some (-1)) else Sum.inl (e x st)) i l st) = some r ∧ r ≤ st ∧ -1 ≤ r ∧ (0 ≤ r → ∀ x ∈ l, P x) from H l 0 left he h0 h1
  intro l
  induction l with
  | nil => exact fun i st _ h0 h1 => ⟨st, rfl, by omega, by omega, fun _ x hx => by simp at hx⟩
  | cons x xs ih =>
    intro i st he h0 h1
    have hx := he x (by simp) st h0 h1
    simp only [walkL]
    by_cases hneg : e x st < 0
    · rw [if_pos hneg]
      exact ⟨-1, rfl, by omega, by omega, fun h => by omega⟩
    · rw [if_neg hneg]
      obtain ⟨r, h2, h3, h4, h5⟩ := ih (i + 1) (e x st) (fun y hy => he y (by simp [hy])) (by omega) (by omega)
      exact ⟨r, h2, by omega, h4, fun hr y hy => by
        rcases List.mem_cons.1 hy with rfl | hy
        · exact hx.2.2 (by omega)
        · exact h5 hr y hy⟩

theorem szStringS {N : Nat} (hN : lim < N) {a : List Txt} (ha : a.length ≤ lim) (hx : ∀ x ∈ a, x.length ≤ lim) {left : Int} (h0 : 0 ≤ left) (h1 : left ≤ 1048576) :
    ∃ r, laws_szStringS N a left = some r ∧ r ≤ left ∧ -1 ≤ r ∧ (0 ≤ r → smL a) := by
  have hlim := lim_eq
  unfold laws_szStringS laws_szStringSb
  rw [wr (n := left - a.length) (by omega) (by omega)]
  by_cases hneg : left - (a.length : Int) < 0
  · rw [decide_eq_true hneg]
    exact ⟨-1, rfl, by omega, by omega, fun h => by omega⟩
  · rw [decide_eq_false hneg]
    obtain ⟨r, h2, h3, h4, h5⟩ := sz_loop a ha (fun x st => if st < x.length then -1 else st - x.length) (fun x => smT x) (laws_szStringS_0r N a) (fun x hm st h0 h1 => by
      unfold smT
      split <;> omega) (fun g i st h h0 h1 => by
        have := hx _ (List.getElem_mem h)
        unfold laws_szStringS_0r
        simp only [dlt h, dge, gAt h, cond_true, wrS (show i ≤ 1000000000000000000 by omega)]
        rw [wr (by omega) (by omega)]
        by_cases hn : st - (a[i].length : Int) < 0
        · rw [decide_eq_true hn, if_pos (by rw [if_pos (by omega)]; omega)]; rfl
        · rw [decide_eq_false hn, if_neg (by rw [if_neg (by omega)]; omega), if_neg (by omega)]; rfl) (fun g st => by
        unfold laws_szStringS_0r
        rw [dnlt]; rfl) N (by omega) (left - a.length) (by omega) (by omega)
    exact ⟨r, h2, by omega, h4, fun h => ⟨by omega, h5 h⟩⟩
theorem szClaimUse {N : Nat} {u : Use} (hx : u.1.length ≤ lim) {left : Int} (h0 : 0 ≤ left) (h1 : left ≤ 1048576) :
    laws_szClaimUse N u left = some (if left < u.1.length then -1 else left - u.1.length) := by
  have hlim := lim_eq
  unfold laws_szClaimUse
  rw [wr (by omega) (by omega)]
  by_cases hn : left - (u.1.length : Int) < 0
  · rw [decide_eq_true hn, if_pos (by omega)]; rfl
  · rw [decide_eq_false hn, if_neg (by omega)]; rfl

theorem szClaimUseS {N : Nat} (hN : lim < N) {a : List Use} (ha : a.length ≤ lim) (hx : ∀ x ∈ a, x.1.length ≤ lim) {left : Int} (h0 : 0 ≤ left) (h1 : left ≤ 1048576) :
    ∃ r, laws_szClaimUseS N a left = some r ∧ r ≤ left ∧ -1 ≤ r ∧ (0 ≤ r → a.length ≤ 1048576 ∧ ∀ u ∈ a, smU u) := by
  have hlim := lim_eq
  unfold laws_szClaimUseS laws_szClaimUseSb
  rw [wr (n := left - a.length) (by omega) (by omega)]
  by_cases hneg : left - (a.length : Int) < 0
  · rw [decide_eq_true hneg]
    exact ⟨-1, rfl, by omega, by omega, fun h => by omega⟩
  · rw [decide_eq_false hneg]
    obtain ⟨r, h2, h3, h4, h5⟩ := sz_loop a ha (fun x st => if st < x.1.length then -1 else st - x.1.length) (fun x => smU x) (laws_szClaimUseS_0r N a) (fun x hm st h0 h1 => by
      unfold smU smT
      split <;> omega) (fun g i st h h0 h1 => by
        have := hx _ (List.getElem_mem h)
        unfold laws_szClaimUseS_0r
        simp only [dlt h, dge, gAt h, cond_true, wrS (show i ≤ 1000000000000000000 by omega)]
        rw [ob_eq (szClaimUse this h0 h1)]
        by_cases hn : (if st < (a[i].1.length : Int) then -1 else st - (a[i].1.length : Int)) < 0
        · rw [decide_eq_true hn, if_pos hn]; rfl
        · rw [decide_eq_false hn, if_neg hn]; rfl) (fun g st => by
        unfold laws_szClaimUseS_0r
        rw [dnlt]; rfl) N (by omega) (left - a.length) (by omega) (by omega)
    exact ⟨r, h2, by omega, h4, fun h => ⟨by omega, h5 h⟩⟩

theorem szNext {o : Option Int} {left : Int} {A B : Prop} (h0 : 0 ≤ left) (h1 : left ≤ 1048576) (h : ∃ r, o = some r ∧ r ≤ left ∧ -1 ≤ r ∧ (0 ≤ r → A)) {B' : Int → Option Int} (hB : ∀ r, 0 ≤ r → r ≤ 1048576 → ∃ q, B' r = some q ∧ q ≤ r ∧ -1 ≤ q ∧ (0 ≤ q → B)) :
    ∃ r, (ob o (Int.ofNat 0) fun r => bif decide (r < 0) then some (-1) else B' r) = some r ∧ r ≤ left ∧ -1 ≤ r ∧ (0 ≤ r → A ∧ B) := by
  obtain ⟨r, rfl, h2, h3, h4⟩ := h
  rw [ob_eq rfl]
  by_cases hn : r < 0
  · rw [decide_eq_true hn]
    exact ⟨-1, rfl, by omega, by omega, fun h => by omega⟩
  · rw [decide_eq_false hn]
    obtain ⟨q, h5, h6, h7, h8⟩ := hB r (by omega) (by omega)
    exact ⟨q, h5, by omega, h7, fun h => ⟨h4 (by omega), h8 h⟩⟩
theorem szLast {o : Option Int} {left : Int} {A : Prop} (h : ∃ r, o = some r ∧ r ≤ left ∧ -1 ≤ r ∧ (0 ≤ r → A)) :
    ∃ r, (ob o (Int.ofNat 0) fun r => bif decide (r < 0) then some (-1) else some r) = some r ∧ r ≤ left ∧ -1 ≤ r ∧ (0 ≤ r → A) := by
  obtain ⟨r, rfl, h2, h3, h4⟩ := h
  rw [ob_eq rfl]
  by_cases hn : r < 0
  · rw [decide_eq_true hn]
    exact ⟨-1, rfl, by omega, by omega, fun h => by omega⟩
  · rw [decide_eq_false hn]
    exact ⟨r, rfl, h2, h3, h4⟩

/-- What fits. -/
def fitW (w : Want) : Prop := (w.2.2.1.length ≤ lim ∧ ∀ x ∈ w.2.2.1, x.length ≤ lim) ∧ (w.2.2.2.1.length ≤ lim ∧ ∀ u ∈ w.2.2.2.1, u.1.length ≤ lim) ∧ (w.2.2.2.2.1.length ≤ lim ∧ ∀ x ∈ w.2.2.2.2.1, x.length ≤ lim) ∧ (w.2.2.2.2.2.length ≤ lim ∧ ∀ x ∈ w.2.2.2.2.2, x.length ≤ lim)

theorem szClaimWant {N : Nat} (hN : lim < N) {w : Want} (hw : fitW w) {left : Int} (h0 : 0 ≤ left) (h1 : left ≤ 1048576) :
    ∃ r, laws_szClaimWant N w left = some r ∧ r ≤ left ∧ -1 ≤ r ∧ (0 ≤ r → smW w) := by
  obtain ⟨⟨a1, a2⟩, ⟨b1, b2⟩, ⟨c1, c2⟩, ⟨d1, d2⟩⟩ := hw
  exact szNext h0 h1 (szStringS hN a1 a2 h0 h1) fun r h0 h1 => szNext h0 h1 (szClaimUseS hN b1 b2 h0 h1) fun r h0 h1 => szNext h0 h1 (szStringS hN c1 c2 h0 h1) fun r h0 h1 => szLast (szStringS hN d1 d2 h0 h1)

/-! Copies -/
theorem toStringS {N : Nat} (hN : lim < N) {a : List Txt} (h : a.length ≤ 1048576) : laws_toStringS N a = some a := by
  have hlim := lim_eq
  unfold laws_toStringS laws_toStringSb
  have h1 : (decide (((a.length : Nat) : Int).toNat * 16 ≤ lim) && (Nat.ble 1 16 && true)) = true := by
    rw [decide_eq_true (by rw [Int.toNat_natCast]; omega)]; rfl
  simp only [h1, cond_true, decide_true]
  refine (lp_set (l := a) (fun x => x) (fun f i out hi ho => ?_) (fun f out => ?_) (by omega) (by simp)).trans (by simp)
  · unfold laws_toStringS_0r
    simp only [dlt hi, dge, gAt hi, cond_true, wrS (show i ≤ 1000000000000000000 by omega), dlt (show i < out.length by omega)]
    rfl
  · unfold laws_toStringS_0r
    rw [dnlt]; rfl

theorem toClaimUseS {N : Nat} (hN : lim < N) {a : List Use} (h : a.length ≤ 1048576) : laws_toClaimUseS N a = some a := by
  have hlim := lim_eq
  unfold laws_toClaimUseS laws_toClaimUseSb
  have h1 : (decide (((a.length : Nat) : Int).toNat * 32 ≤ lim) && (Nat.ble 1 32 && true)) = true := by
    rw [decide_eq_true (by rw [Int.toNat_natCast]; omega)]; rfl
  simp only [h1, cond_true, decide_true]
  refine (lp_set (l := a) (fun x => x) (fun f i out hi ho => ?_) (fun f out => ?_) (by omega) (by simp)).trans (by simp)
  · unfold laws_toClaimUseS_0r
    simp only [dlt hi, dge, gAt hi, cond_true, wrS (show i ≤ 1000000000000000000 by omega), dlt (show i < out.length by omega)]
    rw [ob_eq (show laws_toClaimUse N a[i] = some a[i] from rfl)]
    rfl
  · unfold laws_toClaimUseS_0r
    rw [dnlt]; rfl

theorem toClaimWant {N : Nat} (hN : lim < N) {w : Want} (h : smW w) : laws_toClaimWant N w = some w := by
  obtain ⟨h1, h2, h3, h4⟩ := h
  unfold laws_toClaimWant
  rw [ob_eq (toStringS hN h1.1), ob_eq (toClaimUseS hN h2.1), ob_eq (toStringS hN h3.1), ob_eq (toStringS hN h4.1)]

/-! The same is the same -/
theorem ne_self_i (n : Int) : (n != n) = false := by simp
theorem eqStringS {N : Nat} (hN : lim < N) {a : List Txt} (h : a.length ≤ 1048576) : laws_eqStringS N a a = some true := by
  have hlim := lim_eq
  unfold laws_eqStringS laws_eqStringSb
  simp only [bne_self_eq_false, cond_false]
  refine (lp_allI a _ (fun _ _ => true) (some false) (some true) (fun g i hi => ?_) (fun g => ?_) N (by omega)).trans ?_
  · unfold laws_eqStringS_0r
    simp only [dlt hi, dge, gAt hi, cond_true, wrS (show i ≤ 1000000000000000000 by omega), beq_self_eq_true, Bool.not_true, cond_false]
  · unfold laws_eqStringS_0r
    rw [dnlt]; rfl
  · rw [show allI (fun _ (_ : Txt) => true) 0 a = true from allI_iff.2 fun _ _ _ => rfl]; rfl
theorem eqClaimUse {N : Nat} (u : Use) : laws_eqClaimUse N u u = some true := by
  unfold laws_eqClaimUse
  simp
theorem eqClaimUseS {N : Nat} (hN : lim < N) {a : List Use} (h : a.length ≤ 1048576) : laws_eqClaimUseS N a a = some true := by
  have hlim := lim_eq
  unfold laws_eqClaimUseS laws_eqClaimUseSb
  simp only [bne_self_eq_false, cond_false]
  refine (lp_allI a _ (fun _ _ => true) (some false) (some true) (fun g i hi => ?_) (fun g => ?_) N (by omega)).trans ?_
  · unfold laws_eqClaimUseS_0r
    simp only [dlt hi, dge, gAt hi, cond_true, wrS (show i ≤ 1000000000000000000 by omega)]
    rw [ob_eq (eqClaimUse _)]; rfl
  · unfold laws_eqClaimUseS_0r
    rw [dnlt]; rfl
  · rw [show allI (fun _ (_ : Use) => true) 0 a = true from allI_iff.2 fun _ _ _ => rfl]; rfl
theorem eqClaimWant {N : Nat} (hN : lim < N) {w : Want} (h : smW w) : laws_eqClaimWant N w w = some true := by
  obtain ⟨h1, h2, h3, h4⟩ := h
  unfold laws_eqClaimWant
  simp only [bne_self_eq_false, cond_false]
  rw [ob_eq (eqStringS hN h1.1)]
  simp only [Bool.not_true, cond_false]
  rw [ob_eq (eqClaimUseS hN h2.1)]
  simp only [Bool.not_true, cond_false]
  rw [ob_eq (eqStringS hN h3.1)]
  simp only [Bool.not_true, cond_false]
  rw [ob_eq (eqStringS hN h4.1)]
  simp only [Bool.not_true, cond_false]

/-! Names -/
def inB (n lo hi : Int) : Bool := decide (n ≥ lo) && decide (n ≤ hi)
theorem l1In {N : Nat} (n lo hi : Int) : spec_l1In N n lo hi = some (inB n lo hi) := by
  unfold spec_l1In inB
  cases decide (n ≥ lo) <;> rfl
theorem implIn {N : Nat} (n lo hi : Int) : impl_in N n lo hi = some (inB n lo hi) := by
  unfold impl_in inB
  cases decide (n ≥ lo) <;> rfl

def nmB (b : UInt8) : Bool := (decide ((b.toNat : Int) ≥ 97) && decide ((b.toNat : Int) ≤ 122)) || ((decide ((b.toNat : Int) ≥ 48) && decide ((b.toNat : Int) ≤ 57)) || ((b.toNat : Int) == 45))
def nmOk (s : Txt) : Bool := inB s.length 1 8 && s.all nmB

theorem l1NameOk {N : Nat} (hN : lim < N) (s : Txt) : spec_l1NameOk N s = some (nmOk s) := by
  have hlim := lim_eq
  unfold spec_l1NameOk spec_l1NameOkb nmOk
  rw [ob_eq (l1In _ _ _)]
  cases hb : inB s.length 1 8 with
  | false => rfl
  | true =>
    have hl : s.length ≤ 8 := by
      simp only [inB, Bool.and_eq_true, decide_eq_true_eq] at hb
      omega
    refine (lp_allI s _ (fun _ x => nmB x) (some false) (some true) (fun g i hi => ?_) (fun g => ?_) N (by omega)).trans ?_
    · unfold spec_l1NameOk_0r
      simp only [dlt hi, dge, gAt hi, cond_true, wrS (show i ≤ 1000000000000000000 by omega), nmB]
      generalize decide ((s[i].toNat : Int) ≥ 97) = a1
      generalize decide ((s[i].toNat : Int) ≤ 122) = a2
      generalize decide ((s[i].toNat : Int) ≥ 48) = a3
      generalize decide ((s[i].toNat : Int) ≤ 57) = a4
      generalize ((s[i].toNat : Int) == 45) = a5
      cases a1 <;> cases a2 <;> cases a3 <;> cases a4 <;> cases a5 <;> rfl
    · unfold spec_l1NameOk_0r
      rw [dnlt]; rfl
    · rw [allI_all]
      cases s.all nmB <;> rfl
theorem implName {N : Nat} (hN : lim < N) (s : Txt) : impl_name N s = some (nmOk s) := by
  have hlim := lim_eq
  unfold impl_name impl_nameb nmOk
  rw [ob_eq (implIn _ _ _)]
  cases hb : inB s.length 1 8 with
  | false => rfl
  | true =>
    have hl : s.length ≤ 8 := by
      simp only [inB, Bool.and_eq_true, decide_eq_true_eq] at hb
      omega
    refine (lp_allI s _ (fun _ x => nmB x) (some false) (some true) (fun g i hi => ?_) (fun g => ?_) N (by omega)).trans ?_
    · unfold impl_name_0r
      simp only [dlt hi, dge, gAt hi, cond_true, wrS (show i ≤ 1000000000000000000 by omega), nmB]
      generalize decide ((s[i].toNat : Int) ≥ 97) = a1
      generalize decide ((s[i].toNat : Int) ≤ 122) = a2
      generalize decide ((s[i].toNat : Int) ≥ 48) = a3
      generalize decide ((s[i].toNat : Int) ≤ 57) = a4
      generalize ((s[i].toNat : Int) == 45) = a5
      cases a1 <;> cases a2 <;> cases a3 <;> cases a4 <;> cases a5 <;> rfl
    · unfold impl_name_0r
      rw [dnlt]; rfl
    · rw [allI_all]
      cases s.all nmB <;> rfl

/-- Ascending names, not too many. -/
def ascI (l : List Txt) (i : Nat) (x : Txt) : Bool := i == 0 || Op.bytesLess (l.getD (i - 1) []) x
def nmsOk (l : List Txt) (most : Int) : Bool := !decide ((l.length : Int) > most) && allI (fun i x => nmOk x && ascI l i x) 0 l

theorem l1NamesOk {N : Nat} (hN : lim < N) {l : List Txt} (hl : l.length ≤ lim) (most : Int) : spec_l1NamesOk N l most = some (nmsOk l most) := by
  have hlim := lim_eq
  unfold spec_l1NamesOk spec_l1NamesOkb nmsOk
  cases hb : decide ((l.length : Int) > most) with
  | true => rfl
  | false =>
    refine (lp_allI l _ (fun i x => nmOk x && ascI l i x) (some false) (some true) (fun g i hi => ?_) (fun g => ?_) N (by omega)).trans ?_
    · unfold spec_l1NamesOk_0r ascI
      simp only [dlt hi, dge, gAt hi, cond_true, wrS (show i ≤ 1000000000000000000 by omega), dgt0]
      rw [ob_eq (l1NameOk hN _)]
      cases nmOk l[i] with
      | false => rfl
      | true =>
        cases h0 : i == 0 with
        | true => simp
        | false =>
          have h0' : 0 < i := by simp at h0; omega
          simp only [Bool.not_true, Bool.not_false, cond_true, cond_false, wrP (show i ≤ 1000000000000000000 by omega) h0', dge, dlt (show i - 1 < l.length by omega), gAt', Bool.false_or, Bool.true_and]
          cases Op.bytesLess (l.getD (i - 1) []) l[i] <;> rfl
    · unfold spec_l1NamesOk_0r
      rw [dnlt]; rfl
    · cases allI (fun i x => nmOk x && ascI l i x) 0 l <;> rfl
theorem implNames {N : Nat} (hN : lim < N) {l : List Txt} (hl : l.length ≤ lim) (most : Int) : impl_names N l most = some (nmsOk l most) := by
  have hlim := lim_eq
  unfold impl_names impl_namesb nmsOk
  cases hb : decide ((l.length : Int) > most) with
  | true => rfl
  | false =>
    refine (lp_allI l _ (fun i x => nmOk x && ascI l i x) (some false) (some true) (fun g i hi => ?_) (fun g => ?_) N (by omega)).trans ?_
    · unfold impl_names_0r ascI
      simp only [dlt hi, dge, gAt hi, cond_true, wrS (show i ≤ 1000000000000000000 by omega), dgt0]
      rw [ob_eq (implName hN _)]
      cases nmOk l[i] with
      | false => rfl
      | true =>
        cases h0 : i == 0 with
        | true => simp
        | false =>
          have h0' : 0 < i := by simp at h0; omega
          simp only [Bool.not_true, Bool.not_false, cond_true, cond_false, wrP (show i ≤ 1000000000000000000 by omega) h0', dge, dlt (show i - 1 < l.length by omega), gAt', Bool.false_or, Bool.true_and]
          cases Op.bytesLess (l.getD (i - 1) []) l[i] <;> rfl
    · unfold impl_names_0r
      rw [dnlt]; rfl
    · cases allI (fun i x => nmOk x && ascI l i x) 0 l <;> rfl

/-! Lists of names -/
theorem l1Has {N : Nat} (hN : lim < N) {l : List Txt} (hl : l.length ≤ lim) (s : Txt) : spec_l1Has N l s = some (l.contains s) := by
  have hlim := lim_eq
  unfold spec_l1Has spec_l1Hasb
  refine (lp_allI l _ (fun _ x => !(x == s)) (some true) (some false) (fun g i hi => ?_) (fun g => ?_) N (by omega)).trans ?_
  · unfold spec_l1Has_0r
    simp only [dlt hi, dge, gAt hi, cond_true, wrS (show i ≤ 1000000000000000000 by omega)]
    cases l[i] == s <;> rfl
  · unfold spec_l1Has_0r
    rw [dnlt]; rfl
  · rw [allI_all, List.contains_eq_any_beq]
    have : l.all (fun x => !(x == s)) = !(l.any fun a => s == a) := by
      rw [List.not_any_eq_all_not]
      congr 1; funext x
      rw [Bool.beq_comm]
    rw [this]
    cases l.any fun a => s == a <;> rfl
theorem l1Share {N : Nat} (hN : lim < N) {a b : List Txt} (ha : a.length ≤ lim) (hb : b.length ≤ lim) : spec_l1Share N a b = some (a.any fun x => b.contains x) := by
  have hlim := lim_eq
  unfold spec_l1Share spec_l1Shareb
  refine (lp_allI a _ (fun _ x => !(b.contains x)) (some true) (some false) (fun g i hi => ?_) (fun g => ?_) N (by omega)).trans ?_
  · unfold spec_l1Share_0r
    simp only [dlt hi, dge, gAt hi, cond_true, wrS (show i ≤ 1000000000000000000 by omega)]
    rw [ob_eq (l1Has hN hb _)]
    cases b.contains a[i] <;> rfl
  · unfold spec_l1Share_0r
    rw [dnlt]; rfl
  · rw [allI_all]
    have : a.all (fun x => !(b.contains x)) = !(a.any fun x => b.contains x) := by rw [List.not_any_eq_all_not]
    rw [this]
    cases a.any fun x => b.contains x <;> rfl

/-- Where it first stands, -1 if nowhere. -/
def idxB {α : Type} (p : α → Bool) : Nat → List α → Int
  | _, [] => -1
  | i, x :: xs => bif p x then (i : Int) else idxB p (i + 1) xs
theorem idxB_nonneg {α : Type} (p : α → Bool) : ∀ (l : List α) (i : Nat), decide (idxB p i l ≥ 0) = l.any p
  | [], _ => rfl
  | x :: xs, i => by
    simp only [idxB, List.any_cons]
    by_cases h : p x = true
    · simp [h]
    · simpa [h] using idxB_nonneg p xs (i + 1)
/-- A loop that looks for the first that fits. -/
theorem lp_idx {α : Type} (l : List α) (rd : (Int → Option Int) → Int → Option Int) (p : α → Bool)
    (hstep : ∀ (g : Int → Option Int) (i : Nat) (h : i < l.length), rd g (i : Int) = bif p l[i] then some (i : Int) else g ((i + 1 : Nat) : Int))
    (hend : ∀ (g : Int → Option Int), rd g (l.length : Int) = some (-1)) (N : Nat) (hN : l.length < N) : lp (fun _ => none) rd N 0 = some (idxB p 0 l) := by
  have := lp_walk l (fun (g : Int → Option Int) i (_ : Unit) => g (i : Int)) (fun _ => none) rd (fun i _ x => bif p x then .inr (some (i : Int)) else .inl ()) (fun _ => some (-1)) (fun _ _ => True)
    (fun g i st h _ => ⟨by
      rw [hstep g i h]
      cases p l[i] <;> rfl, fun _ _ => trivial⟩) (fun g _ _ => hend g) N hN () trivial
  refine this.trans ?_
  have : ∀ (l : List α) i, outW (fun _ => some (-1)) (walkL (fun i (_ : Unit) x => bif p x then Sum.inr (some (i : Int)) else Sum.inl ()) i l ()) = some (idxB p i l) := by
    intro l
    induction l with
    | nil => intro i; rfl
    | cons x xs ih =>
      intro i
      simp only [walkL, idxB]
      cases p x with
      | false => simpa using ih (i + 1)
      | true => rfl
  exact this l 0
theorem slicesIndex {N : Nat} (hN : lim < N) {l : List Txt} (hl : l.length ≤ lim) (s : Txt) : slices_Index_string N l s = some (idxB (fun x => s == x) 0 l) := by
  have hlim := lim_eq
  unfold slices_Index_string slices_Index_stringb
  refine lp_idx l _ (fun x => s == x) (fun g i hi => ?_) (fun g => ?_) N (by omega)
  · unfold slices_Index_string_0r
    simp only [dlt hi, dge, gAt hi, cond_true, wrS (show i ≤ 1000000000000000000 by omega)]
  · unfold slices_Index_string_0r
    rw [dnlt]; rfl
theorem slicesContains {N : Nat} (hN : lim < N) {l : List Txt} (hl : l.length ≤ lim) (s : Txt) : slices_Contains_string N l s = some (l.contains s) := by
  unfold slices_Contains_string
  rw [ob_eq (slicesIndex hN hl s), idxB_nonneg, List.contains_eq_any_beq]

/-- The same with what a function value has caught. -/
theorem lp_idxC {α γ : Type} (l : List α) (rd : (Int → γ → Option (Int × γ)) → Int → γ → Option (Int × γ)) (p : α → Bool) (c : γ)
    (hstep : ∀ (g : Int → γ → Option (Int × γ)) (i : Nat) (h : i < l.length), rd g (i : Int) c = bif p l[i] then some ((i : Int), c) else g ((i + 1 : Nat) : Int) c)
    (hend : ∀ (g : Int → γ → Option (Int × γ)), rd g (l.length : Int) c = some (-1, c)) (N : Nat) (hN : l.length < N) : lp (fun _ _ => none) rd N 0 c = some (idxB p 0 l, c) := by
  have := lp_walk l (fun (g : Int → γ → Option (Int × γ)) i (d : γ) => g (i : Int) d) (fun _ _ => none) rd (fun i d x => bif p x then .inr (some ((i : Int), d)) else .inl d) (fun d => some (-1, d)) (fun _ d => d = c)
    (fun g i st h hi => ⟨by
      subst hi
      rw [hstep g i h]
      cases p l[i] <;> rfl, fun st' hs => by
      subst hi
      cases hp : p l[i] with
      | true => rw [hp] at hs; cases hs
      | false => rw [hp] at hs; cases hs; rfl⟩) (fun g d hd => by subst hd; exact hend g) N hN c rfl
  refine this.trans ?_
  have : ∀ (l : List α) i, outW (fun d => some (-1, d)) (walkL (fun i (d : γ) x => bif p x then Sum.inr (some ((i : Int), d)) else Sum.inl d) i l c) = some (idxB p i l, c) := by
    intro l
    induction l with
    | nil => intro i; rfl
    | cons x xs ih =>
      intro i
      simp only [walkL, idxB]
      cases p x with
      | false => simpa using ih (i + 1)
      | true => rfl
  exact this l 0
theorem implCommon {N : Nat} (hN : lim < N) {a b : List Txt} (ha : a.length ≤ lim) (hb : b.length ≤ lim) : impl_common N a b = some (a.any fun x => b.contains x) := by
  have hlim := lim_eq
  unfold impl_common slices_ContainsFunc_string__impl_common_c1
  have h : slices_IndexFunc_string__impl_common_c1 N a b = some (idxB (fun x => b.contains x) 0 a, b) := by
    unfold slices_IndexFunc_string__impl_common_c1 slices_IndexFunc_string__impl_common_c1b
    refine lp_idxC a _ (fun x => b.contains x) b (fun g i hi => ?_) (fun g => ?_) N (by omega)
    · unfold slices_IndexFunc_string__impl_common_c1_0r
      simp only [dlt hi, dge, gAt hi, cond_true, wrS (show i ≤ 1000000000000000000 by omega)]
      have h1 : impl_common_c1 N a[i] b = some (b.contains a[i], b) := by
        unfold impl_common_c1
        rw [ob_eq (slicesContains hN hb _)]
      rw [ob_eq h1]
    · unfold slices_IndexFunc_string__impl_common_c1_0r
      rw [dnlt]; rfl
  rw [ob_eq (a := (a.any fun x => b.contains x, b)) (by rw [ob_eq h, idxB_nonneg])]
end Go.MC

/- ClaimWantOk: the document's and the program's tell the same. -/
set_option linter.unusedVariables false
set_option linter.unusedSimpArgs false
namespace Go.MC
open Go.MC.F

theorem wr3 {a b c : Nat} (ha : a ≤ 1048576) (hb : b ≤ 1048576) (hc : c ≤ 1048576) : IntKind.i64.wrap (IntKind.i64.wrap ((a : Int) + (b : Int)) + (c : Int)) = (a : Int) + (b : Int) + (c : Int) := by
  rw [wr (n := (a : Int) + (b : Int)) (by omega) (by omega), wr (by omega) (by omega)]

theorem dpz (n : Nat) : decide ((n : Int) > 0) = !decide (n = 0) := by cases n <;> simp
theorem dpn (n : Nat) : decide ((n : Int) > 0) = decide (n ≠ 0) := by cases n <;> simp
theorem dsum {a b c : Nat} : ((a : Int) + (b : Int) + (c : Int) == 0) = !decide (a + b + c ≠ 0) := by
  by_cases h : a + b + c = 0
  · rw [decide_eq_false (by omega)]
    exact beq_iff_eq.2 (by omega)
  · rw [decide_eq_true h]
    exact beq_eq_false_iff_ne.2 (by omega)
theorem dsum' {a b c : Nat} : decide ((a : Int) + (b : Int) + (c : Int) > 0) = decide (a + b + c ≠ 0) := by
  by_cases h : a + b + c = 0
  · rw [decide_eq_false (by omega), decide_eq_false (by omega)]
  · rw [decide_eq_true (by omega), decide_eq_true h]

def useOk (w : Want) (i : Nat) (u : Use) : Bool :=
  nmOk u.1 && ((i == 0 || Op.bytesLess (w.2.2.2.1.getD (i - 1) dUse).1 u.1) && (inB u.2.1 1 3 && (bif u.2.1 == 3 then u.2.2 == 0 else (w.2.1 == 1) && inB u.2.2 1 1000)))
def usesOk (w : Want) : Bool := !decide ((w.2.2.2.1.length : Int) > 8) && allI (useOk w) 0 w.2.2.2.1
/-- A want is ok. -/
def wantOk (w : Want) : Bool :=
  inB w.1 1 1000000 && (inB w.2.1 1 3 && (usesOk w && (nmsOk w.2.2.2.2.1 12 && (nmsOk w.2.2.2.2.2 12 && (!(w.2.2.2.2.1.any fun x => w.2.2.2.2.2.contains x) &&
    (decide (w.2.2.2.1.length + w.2.2.2.2.1.length + w.2.2.2.2.2.length ≠ 0) && (((w.2.1 == 1) || decide (w.2.2.2.2.1.length = 0)) && (nmsOk w.2.2.1 8 && ((w.2.1 == 1) == decide (w.2.2.1.length ≠ 0))))))))))

theorem l1UsesOk {N : Nat} (hN : lim < N) (w : Want) : spec_l1UsesOk N w = some (usesOk w) := by
  have hlim := lim_eq
  unfold spec_l1UsesOk spec_l1UsesOkb usesOk
  cases hb : decide ((w.2.2.2.1.length : Int) > 8) with
  | true => rfl
  | false =>
    have hl : w.2.2.2.1.length ≤ 8 := by have := of_decide_eq_false hb; omega
    refine (lp_allI w.2.2.2.1 _ (useOk w) (some false) (some true) (fun g i hi => ?_) (fun g => ?_) N (by omega)).trans ?_
    · unfold spec_l1UsesOk_0r useOk
      simp only [dlt hi, dge, gAt hi, cond_true, wrS (show i ≤ 1000000000000000000 by omega), dgt0]
      rw [ob_eq (l1NameOk hN _)]
      cases nmOk w.2.2.2.1[i].1 with
      | false => rfl
      | true =>
        have key : (ob (spec_l1In N w.2.2.2.1[i].2.1 1 3) false fun r => bif !r then some false else bif w.2.2.2.1[i].2.1 == 3 then bif w.2.2.2.1[i].2.2 != 0 then some false else bif w.2.2.2.1[i].2.1 != 3 then bif w.2.1 != 1 then some false else ob (spec_l1In N w.2.2.2.1[i].2.2 1 1000) false fun r => bif !r then some false else g ((i + 1 : Nat) : Int) else g ((i + 1 : Nat) : Int)
            else bif w.2.2.2.1[i].2.1 != 3 then bif w.2.1 != 1 then some false else ob (spec_l1In N w.2.2.2.1[i].2.2 1 1000) false fun r => bif !r then some false else g ((i + 1 : Nat) : Int) else g ((i + 1 : Nat) : Int)) =
            bif (inB w.2.2.2.1[i].2.1 1 3 && (bif w.2.2.2.1[i].2.1 == 3 then w.2.2.2.1[i].2.2 == 0 else (w.2.1 == 1) && inB w.2.2.2.1[i].2.2 1 1000)) then g ((i + 1 : Nat) : Int) else some false := by
          rw [ob_eq (l1In _ _ _)]
          simp only [ob_eq (l1In w.2.2.2.1[i].2.2 1 1000), bne]
          cases inB w.2.2.2.1[i].2.1 1 3 <;> cases (w.2.2.2.1[i].2.1 == 3) <;> cases (w.2.2.2.1[i].2.2 == 0) <;> cases (w.2.1 == 1) <;> cases inB w.2.2.2.1[i].2.2 1 1000 <;> rfl
        cases h0 : i == 0 with
        | true =>
          simp only [Bool.not_true, cond_false, Bool.true_or, Bool.true_and]
          exact key
        | false =>
          have h0' : 0 < i := by simp at h0; omega
          simp only [Bool.not_true, Bool.not_false, cond_true, cond_false, wrP (show i ≤ 1000000000000000000 by omega) h0', dge, dlt (show i - 1 < w.2.2.2.1.length by omega), gAt', Bool.false_or, Bool.true_and]
          cases Op.bytesLess (w.2.2.2.1.getD (i - 1) dUse).1 w.2.2.2.1[i].1 with
          | false => rfl
          | true => exact key
    · unfold spec_l1UsesOk_0r
      rw [dnlt]; rfl
    · cases allI (useOk w) 0 w.2.2.2.1 <;> rfl

theorem specWantOk {N : Nat} (hN : lim < N) {w : Want} (h : smW w) : spec_ClaimWantOk N w = some (wantOk w) := by
  have hlim := lim_eq
  obtain ⟨h1, h2, h3, h4⟩ := h
  have l1 := h1.1
  have l2 := h2.1
  have l3 := h3.1
  have l4 := h4.1
  unfold spec_ClaimWantOk wantOk
  rw [wr3 l2 l3 l4]
  rw [ob_eq (l1In _ _ _)]
  simp only [ob_eq (l1In w.2.1 1 3), ob_eq (l1UsesOk hN w), ob_eq (l1NamesOk hN (show w.2.2.2.2.1.length ≤ lim by omega) 12), ob_eq (l1NamesOk hN (show w.2.2.2.2.2.length ≤ lim by omega) 12), ob_eq (l1Share hN (show w.2.2.2.2.1.length ≤ lim by omega) (show w.2.2.2.2.2.length ≤ lim by omega)), ob_eq (l1NamesOk hN (show w.2.2.1.length ≤ lim by omega) 8), bne]
  rw [dsum]
  rw [dpz w.2.2.2.2.1.length]
  rw [dpn w.2.2.1.length]
  generalize inB w.1 1 1000000 = x0
  generalize inB w.2.1 1 3 = x1
  generalize usesOk w = x2
  generalize nmsOk w.2.2.2.2.1 12 = x3
  generalize nmsOk w.2.2.2.2.2 12 = x4
  generalize (w.2.2.2.2.1.any fun x => w.2.2.2.2.2.contains x) = x5
  generalize decide (w.2.2.2.1.length + w.2.2.2.2.1.length + w.2.2.2.2.2.length ≠ 0) = x6
  generalize (w.2.1 == 1) = x7
  generalize decide (w.2.2.2.2.1.length = 0) = x8
  generalize nmsOk w.2.2.1 8 = x9
  generalize decide (w.2.2.1.length ≠ 0) = x10
  revert x0 x1 x2 x3 x4 x5 x6 x7 x8 x9 x10
  decide +kernel


theorem implWantOk {N : Nat} (hN : lim < N) {w : Want} (h : smW w) : impl_ClaimWantOk N w = some (wantOk w) := by
  have hlim := lim_eq
  obtain ⟨h1, h2, h3, h4⟩ := h
  have l1 := h1.1
  have l2 := h2.1
  have l3 := h3.1
  have l4 := h4.1
  unfold impl_ClaimWantOk impl_ClaimWantOkb
  rw [ob_eq (implIn _ _ _)]
  simp only [ob_eq (implIn w.2.1 1 3), ob_eq (implNames hN (show w.2.2.1.length ≤ lim by omega) 8)]
  have loop : impl_ClaimWantOk_0 N w (w.2.1 == 1) (w.2.2.2.1.length : Int) N 0 = bif allI (useOk w) 0 w.2.2.2.1 then (impl_ClaimWantOk_0r N w (w.2.1 == 1) (w.2.2.2.1.length : Int) (fun _ => none) (w.2.2.2.1.length : Int)) else some false := by
    refine lp_allI w.2.2.2.1 _ (useOk w) (some false) _ (fun g i hi => ?_) (fun g => ?_) N (by omega)
    · unfold impl_ClaimWantOk_0r useOk
      simp only [dlt hi, dge, gAt hi, cond_true, wrS (show i ≤ 1000000000000000000 by omega), dgt0]
      rw [ob_eq (implName hN _)]
      cases nmOk w.2.2.2.1[i].1 with
      | false => rfl
      | true =>
        have key : (ob (impl_in N w.2.2.2.1[i].2.1 1 3) false fun r => bif !r then some false else bif w.2.2.2.1[i].2.1 == 3 then bif w.2.2.2.1[i].2.2 != 0 then some false else g ((i + 1 : Nat) : Int)
            else bif !(w.2.1 == 1) then some false else ob (impl_in N w.2.2.2.1[i].2.2 1 1000) false fun r => bif !r then some false else g ((i + 1 : Nat) : Int)) =
            bif (inB w.2.2.2.1[i].2.1 1 3 && (bif w.2.2.2.1[i].2.1 == 3 then w.2.2.2.1[i].2.2 == 0 else (w.2.1 == 1) && inB w.2.2.2.1[i].2.2 1 1000)) then g ((i + 1 : Nat) : Int) else some false := by
          rw [ob_eq (implIn _ _ _)]
          simp only [ob_eq (implIn w.2.2.2.1[i].2.2 1 1000), bne]
          cases inB w.2.2.2.1[i].2.1 1 3 <;> cases (w.2.2.2.1[i].2.1 == 3) <;> cases (w.2.2.2.1[i].2.2 == 0) <;> cases (w.2.1 == 1) <;> cases inB w.2.2.2.1[i].2.2 1 1000 <;> rfl
        cases h0 : i == 0 with
        | true =>
          simp only [Bool.not_true, cond_false, Bool.true_or, Bool.true_and]
          exact key
        | false =>
          have h0' : 0 < i := by simp at h0; omega
          simp only [Bool.not_true, Bool.not_false, cond_true, cond_false, wrP (show i ≤ 1000000000000000000 by omega) h0', dge, dlt (show i - 1 < w.2.2.2.1.length by omega), gAt', Bool.false_or, Bool.true_and]
          cases Op.bytesLess (w.2.2.2.1.getD (i - 1) dUse).1 w.2.2.2.1[i].1 with
          | false => rfl
          | true => exact key
    · unfold impl_ClaimWantOk_0r
      rw [dnlt]; rfl
  rw [loop]
  unfold impl_ClaimWantOk_0r wantOk usesOk
  rw [dnlt, cond_false, wr3 l2 l3 l4]
  rw [ob_eq (implNames hN (show w.2.2.2.2.1.length ≤ lim by omega) 12)]
  simp only [ob_eq (implNames hN (show w.2.2.2.2.2.length ≤ lim by omega) 12), ob_eq (implCommon hN (show w.2.2.2.2.1.length ≤ lim by omega) (show w.2.2.2.2.2.length ≤ lim by omega))]
  rw [dsum']
  rw [dpz w.2.2.2.2.1.length]
  rw [dpn w.2.2.1.length]
  generalize inB w.1 1 1000000 = x0
  generalize inB w.2.1 1 3 = x1
  generalize nmsOk w.2.2.1 8 = x2
  generalize (w.2.1 == 1) = x3
  generalize decide (w.2.2.1.length ≠ 0) = x4
  generalize decide ((w.2.2.2.1.length : Int) > 8) = x5
  generalize allI (useOk w) 0 w.2.2.2.1 = x6
  generalize nmsOk w.2.2.2.2.1 12 = x7
  generalize nmsOk w.2.2.2.2.2 12 = x8
  generalize (w.2.2.2.2.1.any fun x => w.2.2.2.2.2.contains x) = x9
  generalize decide (w.2.2.2.2.1.length = 0) = x10
  generalize decide (w.2.2.2.1.length + w.2.2.2.2.1.length + w.2.2.2.2.2.length ≠ 0) = x11
  revert x0 x1 x2 x3 x4 x5 x6 x7 x8 x9 x10 x11
  decide +kernel


theorem fit_want {w : Want} (h : Fit tWant w) : fitW w := by
  obtain ⟨_, _, h1, h2, h3, h4⟩ := h
  exact ⟨h1, ⟨h2.1, fun u hu => (h2.2 u hu).1⟩, h3, h4⟩
end Go.MC

/- Sizes, copies and sameness of books. -/
set_option linter.unusedVariables false
set_option linter.unusedSimpArgs false
namespace Go.MC
open Go.MC.F

def smF (f : Foe) : Prop := smT f.1 ∧ smT f.2
def smS (s : Spot) : Prop := smT s.1 ∧ smL s.2.2.2.2
def smP (p : Part) : Prop := smW p.1
def smB (b : Book) : Prop := (b.1.length ≤ 1048576 ∧ ∀ f ∈ b.1, smF f) ∧ (b.2.1.length ≤ 1048576 ∧ ∀ s ∈ b.2.1, smS s) ∧ smL b.2.2.1 ∧ (b.2.2.2.1.length ≤ 1048576 ∧ ∀ p ∈ b.2.2.2.1, smP p)
def fitF (f : Foe) : Prop := f.1.length ≤ lim ∧ f.2.length ≤ lim
def fitS (s : Spot) : Prop := s.1.length ≤ lim ∧ (s.2.2.2.2.length ≤ lim ∧ ∀ x ∈ s.2.2.2.2, x.length ≤ lim)
def fitP (p : Part) : Prop := fitW p.1
def fitB (b : Book) : Prop := (b.1.length ≤ lim ∧ ∀ f ∈ b.1, fitF f) ∧ (b.2.1.length ≤ lim ∧ ∀ s ∈ b.2.1, fitS s) ∧ (b.2.2.1.length ≤ lim ∧ ∀ x ∈ b.2.2.1, x.length ≤ lim) ∧ (b.2.2.2.1.length ≤ lim ∧ ∀ p ∈ b.2.2.2.1, fitP p)
theorem fit_book {b : Book} (h : Fit tBook b) : fitB b := by
  obtain ⟨h1, h2, h3, h4, h5⟩ := h
  refine ⟨⟨h1.1, fun f hf => h1.2 f hf⟩, ⟨h2.1, fun s hs => ?_⟩, h3, h4.1, fun p hp => fit_want (h4.2 p hp).1⟩
  obtain ⟨a, _, _, _, e⟩ := h2.2 s hs
  exact ⟨a, e⟩

/-- A loop that counts down, element by element. -/
theorem sz_loopE {α : Type} (l : List α) (hl : l.length ≤ lim) (el : α → Int → Option Int) (P : α → Prop) (rd : (Int → Int → Option Int) → Int → Int → Option Int)
    (hel : ∀ x ∈ l, ∀ st : Int, 0 ≤ st → st ≤ 1048576 → ∃ r, el x st = some r ∧ r ≤ st ∧ -1 ≤ r ∧ (0 ≤ r → P x))
    (hstep : ∀ (g : Int → Int → Option Int) (i : Nat) (st : Int) (h : i < l.length), rd g st (i : Int) = ob (el l[i] st) (Int.ofNat 0) fun r => bif decide (r < 0) then some (-1) else g r ((i + 1 : Nat) : Int))
    (hend : ∀ (g : Int → Int → Option Int) (st : Int), rd g st (l.length : Int) = some st) (N : Nat) (hN : l.length < N) (left : Int) (h0 : 0 ≤ left) (h1 : left ≤ 1048576) :
    ∃ r, lp (fun _ _ => none) rd N left 0 = some r ∧ r ≤ left ∧ -1 ≤ r ∧ (0 ≤ r → ∀ x ∈ l, P x) := by
  refine sz_loop l hl (fun x st => (el x st).getD 0) P rd (fun x hx st h0 h1 => ?_) (fun g i st h h0 h1 => ?_) hend N hN left h0 h1
  · obtain ⟨r, h2, h3⟩ := hel x hx st h0 h1
    rw [h2]; exact h3
  · obtain ⟨r, h2, h3⟩ := hel _ (List.getElem_mem h) st h0 h1
    rw [hstep g i st h, ob_eq h2, h2]
    by_cases hn : r < 0
    · rw [decide_eq_true hn, if_pos (show (some r).getD 0 < 0 from hn)]; rfl
    · rw [decide_eq_false hn, if_neg (show ¬ (some r).getD 0 < 0 from hn)]; rfl

theorem szClaimFoe {N : Nat} {f : Foe} (hf : fitF f) {left : Int} (h0 : 0 ≤ left) (h1 : left ≤ 1048576) : ∃ r, laws_szClaimFoe N f left = some r ∧ r ≤ left ∧ -1 ≤ r ∧ (0 ≤ r → smF f) := by
  have hlim := lim_eq
  obtain ⟨a, b⟩ := hf
  unfold laws_szClaimFoe
  rw [wr (n := left - (f.1.length : Int)) (by omega) (by omega), wr (n := left - (f.1.length : Int) - (f.2.length : Int)) (by omega) (by omega)]
  by_cases hn : left - (f.1.length : Int) < 0
  · rw [decide_eq_true hn]
    exact ⟨-1, rfl, by omega, by omega, fun h => by omega⟩
  · rw [decide_eq_false hn]
    by_cases hn2 : left - (f.1.length : Int) - (f.2.length : Int) < 0
    · rw [decide_eq_true hn2]
      exact ⟨-1, rfl, by omega, by omega, fun h => by omega⟩
    · rw [decide_eq_false hn2]
      exact ⟨_, rfl, by omega, by omega, fun h => ⟨by unfold smT; omega, by unfold smT; omega⟩⟩
theorem szClaimSpot {N : Nat} (hN : lim < N) {s : Spot} (hs : fitS s) {left : Int} (h0 : 0 ≤ left) (h1 : left ≤ 1048576) : ∃ r, laws_szClaimSpot N s left = some r ∧ r ≤ left ∧ -1 ≤ r ∧ (0 ≤ r → smS s) := by
  have hlim := lim_eq
  obtain ⟨a, b, c⟩ := hs
  unfold laws_szClaimSpot
  rw [wr (n := left - (s.1.length : Int)) (by omega) (by omega)]
  by_cases hn : left - (s.1.length : Int) < 0
  · rw [decide_eq_true hn]
    exact ⟨-1, rfl, by omega, by omega, fun h => by omega⟩
  · rw [decide_eq_false hn]
    obtain ⟨r, h2, h3, h4, h5⟩ := szLast (szStringS hN b c (left := left - (s.1.length : Int)) (by omega) (by omega))
    exact ⟨r, h2, by omega, h4, fun h => ⟨by unfold smT; omega, h5 h⟩⟩
theorem szClaimPart {N : Nat} (hN : lim < N) {p : Part} (hp : fitP p) {left : Int} (h0 : 0 ≤ left) (h1 : left ≤ 1048576) : ∃ r, laws_szClaimPart N p left = some r ∧ r ≤ left ∧ -1 ≤ r ∧ (0 ≤ r → smP p) :=
  szLast (szClaimWant hN hp h0 h1)

theorem szClaimFoeS {N : Nat} (hN : lim < N) {a : List Foe} (ha : a.length ≤ lim) (hx : ∀ x ∈ a, fitF x) {left : Int} (h0 : 0 ≤ left) (h1 : left ≤ 1048576) :
    ∃ r, laws_szClaimFoeS N a left = some r ∧ r ≤ left ∧ -1 ≤ r ∧ (0 ≤ r → a.length ≤ 1048576 ∧ ∀ x ∈ a, smF x) := by
  have hlim := lim_eq
  unfold laws_szClaimFoeS laws_szClaimFoeSb
  rw [wr (n := left - a.length) (by omega) (by omega)]
  by_cases hneg : left - (a.length : Int) < 0
  · rw [decide_eq_true hneg]
    exact ⟨-1, rfl, by omega, by omega, fun h => by omega⟩
  · rw [decide_eq_false hneg]
    obtain ⟨r, h2, h3, h4, h5⟩ := sz_loopE a ha (laws_szClaimFoe N) (fun x => smF x) (laws_szClaimFoeS_0r N a) (fun x hm st h0 h1 => szClaimFoe (hx x hm) h0 h1) (fun g i st h => by
        unfold laws_szClaimFoeS_0r
        simp only [dlt h, dge, gAt h, cond_true, wrS (show i ≤ 1000000000000000000 by omega)]) (fun g st => by
        unfold laws_szClaimFoeS_0r
        rw [dnlt]; rfl) N (by omega) (left - a.length) (by omega) (by omega)
    exact ⟨r, h2, by omega, h4, fun h => ⟨by omega, h5 h⟩⟩

theorem szClaimSpotS {N : Nat} (hN : lim < N) {a : List Spot} (ha : a.length ≤ lim) (hx : ∀ x ∈ a, fitS x) {left : Int} (h0 : 0 ≤ left) (h1 : left ≤ 1048576) :
    ∃ r, laws_szClaimSpotS N a left = some r ∧ r ≤ left ∧ -1 ≤ r ∧ (0 ≤ r → a.length ≤ 1048576 ∧ ∀ x ∈ a, smS x) := by
  have hlim := lim_eq
  unfold laws_szClaimSpotS laws_szClaimSpotSb
  rw [wr (n := left - a.length) (by omega) (by omega)]
  by_cases hneg : left - (a.length : Int) < 0
  · rw [decide_eq_true hneg]
    exact ⟨-1, rfl, by omega, by omega, fun h => by omega⟩
  · rw [decide_eq_false hneg]
    obtain ⟨r, h2, h3, h4, h5⟩ := sz_loopE a ha (laws_szClaimSpot N) (fun x => smS x) (laws_szClaimSpotS_0r N a) (fun x hm st h0 h1 => szClaimSpot hN (hx x hm) h0 h1) (fun g i st h => by
        unfold laws_szClaimSpotS_0r
        simp only [dlt h, dge, gAt h, cond_true, wrS (show i ≤ 1000000000000000000 by omega)]) (fun g st => by
        unfold laws_szClaimSpotS_0r
        rw [dnlt]; rfl) N (by omega) (left - a.length) (by omega) (by omega)
    exact ⟨r, h2, by omega, h4, fun h => ⟨by omega, h5 h⟩⟩

theorem szClaimPartS {N : Nat} (hN : lim < N) {a : List Part} (ha : a.length ≤ lim) (hx : ∀ x ∈ a, fitP x) {left : Int} (h0 : 0 ≤ left) (h1 : left ≤ 1048576) :
    ∃ r, laws_szClaimPartS N a left = some r ∧ r ≤ left ∧ -1 ≤ r ∧ (0 ≤ r → a.length ≤ 1048576 ∧ ∀ x ∈ a, smP x) := by
  have hlim := lim_eq
  unfold laws_szClaimPartS laws_szClaimPartSb
  rw [wr (n := left - a.length) (by omega) (by omega)]
  by_cases hneg : left - (a.length : Int) < 0
  · rw [decide_eq_true hneg]
    exact ⟨-1, rfl, by omega, by omega, fun h => by omega⟩
  · rw [decide_eq_false hneg]
    obtain ⟨r, h2, h3, h4, h5⟩ := sz_loopE a ha (laws_szClaimPart N) (fun x => smP x) (laws_szClaimPartS_0r N a) (fun x hm st h0 h1 => szClaimPart hN (hx x hm) h0 h1) (fun g i st h => by
        unfold laws_szClaimPartS_0r
        simp only [dlt h, dge, gAt h, cond_true, wrS (show i ≤ 1000000000000000000 by omega)]) (fun g st => by
        unfold laws_szClaimPartS_0r
        rw [dnlt]; rfl) N (by omega) (left - a.length) (by omega) (by omega)
    exact ⟨r, h2, by omega, h4, fun h => ⟨by omega, h5 h⟩⟩

theorem szClaimBook {N : Nat} (hN : lim < N) {b : Book} (hb : fitB b) {left : Int} (h0 : 0 ≤ left) (h1 : left ≤ 1048576) : ∃ r, laws_szClaimBook N b left = some r ∧ r ≤ left ∧ -1 ≤ r ∧ (0 ≤ r → smB b) := by
  obtain ⟨⟨a1, a2⟩, ⟨b1, b2⟩, ⟨c1, c2⟩, ⟨d1, d2⟩⟩ := hb
  exact szNext h0 h1 (szClaimFoeS hN a1 a2 h0 h1) fun r h0 h1 => szNext h0 h1 (szClaimSpotS hN b1 b2 h0 h1) fun r h0 h1 => szNext h0 h1 (szStringS hN c1 c2 h0 h1) fun r h0 h1 => szLast (szClaimPartS hN d1 d2 h0 h1)

theorem toClaimSpot {N : Nat} (hN : lim < N) {s : Spot} (h : smS s) : laws_toClaimSpot N s = some s := by
  unfold laws_toClaimSpot
  rw [ob_eq (toStringS hN h.2.1)]
theorem toClaimPart {N : Nat} (hN : lim < N) {p : Part} (h : smP p) : laws_toClaimPart N p = some p := by
  unfold laws_toClaimPart
  rw [ob_eq (toClaimWant hN h)]
theorem toClaimFoe {N : Nat} (hN : lim < N) {f : Foe} (h : smF f) : laws_toClaimFoe N f = some f := rfl
theorem eqClaimFoe {N : Nat} (hN : lim < N) {f : Foe} (h : smF f) : laws_eqClaimFoe N f f = some true := by
  unfold laws_eqClaimFoe
  simp
theorem eqClaimSpot {N : Nat} (hN : lim < N) {s : Spot} (h : smS s) : laws_eqClaimSpot N s s = some true := by
  unfold laws_eqClaimSpot
  simp only [bne_self_eq_false, beq_self_eq_true, Bool.not_true, cond_false]
  rw [ob_eq (eqStringS hN h.2.1)]; rfl
theorem eqClaimPart {N : Nat} (hN : lim < N) {p : Part} (h : smP p) : laws_eqClaimPart N p p = some true := by
  unfold laws_eqClaimPart
  rw [ob_eq (eqClaimWant hN h)]
  simp

theorem toClaimFoeS {N : Nat} (hN : lim < N) {a : List Foe} (h : a.length ≤ 1048576) (hx : ∀ x ∈ a, smF x) : laws_toClaimFoeS N a = some a := by
  have hlim := lim_eq
  unfold laws_toClaimFoeS laws_toClaimFoeSb
  have h1 : (decide (((a.length : Nat) : Int).toNat * 32 ≤ lim) && (Nat.ble 1 32 && true)) = true := by
    rw [decide_eq_true (by rw [Int.toNat_natCast]; omega)]; rfl
  simp only [h1, cond_true, decide_true]
  refine (lp_set (l := a) (fun x => x) (fun f i out hi ho => ?_) (fun f out => ?_) (by omega) (by simp)).trans (by simp)
  · unfold laws_toClaimFoeS_0r
    simp only [dlt hi, dge, gAt hi, cond_true, wrS (show i ≤ 1000000000000000000 by omega), dlt (show i < out.length by omega)]
    rw [ob_eq (toClaimFoe hN (hx _ (List.getElem_mem hi)))]
    rfl
  · unfold laws_toClaimFoeS_0r
    rw [dnlt]; rfl
theorem eqClaimFoeS {N : Nat} (hN : lim < N) {a : List Foe} (h : a.length ≤ 1048576) (hx : ∀ x ∈ a, smF x) : laws_eqClaimFoeS N a a = some true := by
  have hlim := lim_eq
  unfold laws_eqClaimFoeS laws_eqClaimFoeSb
  simp only [bne_self_eq_false, cond_false]
  refine (lp_allI a _ (fun _ _ => true) (some false) (some true) (fun g i hi => ?_) (fun g => ?_) N (by omega)).trans ?_
  · unfold laws_eqClaimFoeS_0r
    simp only [dlt hi, dge, gAt hi, cond_true, wrS (show i ≤ 1000000000000000000 by omega)]
    rw [ob_eq (eqClaimFoe hN (hx _ (List.getElem_mem hi)))]; rfl
  · unfold laws_eqClaimFoeS_0r
    rw [dnlt]; rfl
  · rw [show allI (fun _ (_ : Foe) => true) 0 a = true from allI_iff.2 fun _ _ _ => rfl]; rfl

theorem toClaimSpotS {N : Nat} (hN : lim < N) {a : List Spot} (h : a.length ≤ 1048576) (hx : ∀ x ∈ a, smS x) : laws_toClaimSpotS N a = some a := by
  have hlim := lim_eq
  unfold laws_toClaimSpotS laws_toClaimSpotSb
  have h1 : (decide (((a.length : Nat) : Int).toNat * 64 ≤ lim) && (Nat.ble 1 64 && true)) = true := by
    rw [decide_eq_true (by rw [Int.toNat_natCast]; omega)]; rfl
  simp only [h1, cond_true, decide_true]
  refine (lp_set (l := a) (fun x => x) (fun f i out hi ho => ?_) (fun f out => ?_) (by omega) (by simp)).trans (by simp)
  · unfold laws_toClaimSpotS_0r
    simp only [dlt hi, dge, gAt hi, cond_true, wrS (show i ≤ 1000000000000000000 by omega), dlt (show i < out.length by omega)]
    rw [ob_eq (toClaimSpot hN (hx _ (List.getElem_mem hi)))]
    rfl
  · unfold laws_toClaimSpotS_0r
    rw [dnlt]; rfl
theorem eqClaimSpotS {N : Nat} (hN : lim < N) {a : List Spot} (h : a.length ≤ 1048576) (hx : ∀ x ∈ a, smS x) : laws_eqClaimSpotS N a a = some true := by
  have hlim := lim_eq
  unfold laws_eqClaimSpotS laws_eqClaimSpotSb
  simp only [bne_self_eq_false, cond_false]
  refine (lp_allI a _ (fun _ _ => true) (some false) (some true) (fun g i hi => ?_) (fun g => ?_) N (by omega)).trans ?_
  · unfold laws_eqClaimSpotS_0r
    simp only [dlt hi, dge, gAt hi, cond_true, wrS (show i ≤ 1000000000000000000 by omega)]
    rw [ob_eq (eqClaimSpot hN (hx _ (List.getElem_mem hi)))]; rfl
  · unfold laws_eqClaimSpotS_0r
    rw [dnlt]; rfl
  · rw [show allI (fun _ (_ : Spot) => true) 0 a = true from allI_iff.2 fun _ _ _ => rfl]; rfl

theorem toClaimPartS {N : Nat} (hN : lim < N) {a : List Part} (h : a.length ≤ 1048576) (hx : ∀ x ∈ a, smP x) : laws_toClaimPartS N a = some a := by
  have hlim := lim_eq
  unfold laws_toClaimPartS laws_toClaimPartSb
  have h1 : (decide (((a.length : Nat) : Int).toNat * 120 ≤ lim) && (Nat.ble 1 120 && true)) = true := by
    rw [decide_eq_true (by rw [Int.toNat_natCast]; omega)]; rfl
  simp only [h1, cond_true, decide_true]
  refine (lp_set (l := a) (fun x => x) (fun f i out hi ho => ?_) (fun f out => ?_) (by omega) (by simp)).trans (by simp)
  · unfold laws_toClaimPartS_0r
    simp only [dlt hi, dge, gAt hi, cond_true, wrS (show i ≤ 1000000000000000000 by omega), dlt (show i < out.length by omega)]
    rw [ob_eq (toClaimPart hN (hx _ (List.getElem_mem hi)))]
    rfl
  · unfold laws_toClaimPartS_0r
    rw [dnlt]; rfl
theorem eqClaimPartS {N : Nat} (hN : lim < N) {a : List Part} (h : a.length ≤ 1048576) (hx : ∀ x ∈ a, smP x) : laws_eqClaimPartS N a a = some true := by
  have hlim := lim_eq
  unfold laws_eqClaimPartS laws_eqClaimPartSb
  simp only [bne_self_eq_false, cond_false]
  refine (lp_allI a _ (fun _ _ => true) (some false) (some true) (fun g i hi => ?_) (fun g => ?_) N (by omega)).trans ?_
  · unfold laws_eqClaimPartS_0r
    simp only [dlt hi, dge, gAt hi, cond_true, wrS (show i ≤ 1000000000000000000 by omega)]
    rw [ob_eq (eqClaimPart hN (hx _ (List.getElem_mem hi)))]; rfl
  · unfold laws_eqClaimPartS_0r
    rw [dnlt]; rfl
  · rw [show allI (fun _ (_ : Part) => true) 0 a = true from allI_iff.2 fun _ _ _ => rfl]; rfl

theorem toClaimBook {N : Nat} (hN : lim < N) {b : Book} (h : smB b) : laws_toClaimBook N b = some b := by
  obtain ⟨h1, h2, h3, h4⟩ := h
  unfold laws_toClaimBook
  rw [ob_eq (toClaimFoeS hN h1.1 h1.2), ob_eq (toClaimSpotS hN h2.1 h2.2), ob_eq (toStringS hN h3.1), ob_eq (toClaimPartS hN h4.1 h4.2)]
theorem eqClaimBook {N : Nat} (hN : lim < N) {b : Book} (h : smB b) : laws_eqClaimBook N b b = some true := by
  obtain ⟨h1, h2, h3, h4⟩ := h
  unfold laws_eqClaimBook
  rw [ob_eq (eqClaimFoeS hN h1.1 h1.2)]
  simp only [Bool.not_true, cond_false]
  rw [ob_eq (eqClaimSpotS hN h2.1 h2.2)]
  simp only [Bool.not_true, cond_false]
  rw [ob_eq (eqStringS hN h3.1)]
  simp only [Bool.not_true, cond_false]
  rw [ob_eq (eqClaimPartS hN h4.1 h4.2)]
  simp only [Bool.not_true, cond_false, bne_self_eq_false]
end Go.MC

/- ClaimBookOk: the document's and the program's tell the same. -/
set_option linter.unusedVariables false
set_option linter.unusedSimpArgs false
namespace Go.MC
open Go.MC.F

theorem less_irrefl : ∀ l : Txt, Op.bytesLess l l = false
  | [] => rfl
  | a :: x => by
    have : ¬ a < a := UInt8.lt_irrefl a
    simp [Op.bytesLess, this, less_irrefl x]

theorem not_any {α : Type} (l : List α) (p : α → Bool) : l.all (fun x => !p x) = !l.any p := by rw [List.not_any_eq_all_not]
theorem not_all {α : Type} (l : List α) (p : α → Bool) : l.any (fun x => !p x) = !l.all p := by rw [List.not_all_eq_any_not]

/-! Foes -/
def isFoe (b : Book) (x y : Txt) : Bool := b.1.any fun f => (f.1 == x && f.2 == y) || (f.1 == y && f.2 == x)
def clash (b : Book) (x y : List Txt) : Bool := b.1.any fun f => (x.contains f.1 && y.contains f.2) || (x.contains f.2 && y.contains f.1)
theorem clash_eq (b : Book) (x y : List Txt) : clash b x y = x.any fun u => y.any fun v => isFoe b u v := by
  rw [Bool.eq_iff_iff]
  simp only [clash, isFoe, List.any_eq_true, Bool.or_eq_true, Bool.and_eq_true, List.contains_iff_mem, beq_iff_eq]
  constructor
  · rintro ⟨f, hf, ⟨h1, h2⟩ | ⟨h1, h2⟩⟩
    · exact ⟨f.1, h1, f.2, h2, f, hf, .inl ⟨rfl, rfl⟩⟩
    · exact ⟨f.2, h1, f.1, h2, f, hf, .inr ⟨rfl, rfl⟩⟩
  · rintro ⟨u, hu, v, hv, f, hf, ⟨rfl, rfl⟩ | ⟨rfl, rfl⟩⟩
    · exact ⟨f, hf, .inl ⟨hu, hv⟩⟩
    · exact ⟨f, hf, .inr ⟨hu, hv⟩⟩

theorem l2Foes {N : Nat} (hN : lim < N) {b : Book} (hb : b.1.length ≤ 1048576) (x y : Txt) : spec_l2Foes N b x y = some (isFoe b x y) := by
  have hlim := lim_eq
  unfold spec_l2Foes spec_l2Foesb
  refine (lp_allI b.1 _ (fun _ f => !((f.1 == x && f.2 == y) || (f.1 == y && f.2 == x))) (some true) (some false) (fun g i hi => ?_) (fun g => ?_) N (by omega)).trans ?_
  · unfold spec_l2Foes_0r
    simp only [dlt hi, dge, gAt hi, cond_true, wrS (show i ≤ 1000000000000000000 by omega)]
    generalize (b.1[i].1 == x) = a1
    generalize (b.1[i].2 == y) = a2
    generalize (b.1[i].1 == y) = a3
    generalize (b.1[i].2 == x) = a4
    cases a1 <;> cases a2 <;> cases a3 <;> cases a4 <;> rfl
  · unfold spec_l2Foes_0r
    rw [dnlt]; rfl
  · rw [allI_all, not_any]
    unfold isFoe
    cases b.1.any fun f => (f.1 == x && f.2 == y) || (f.1 == y && f.2 == x) <;> rfl
theorem l2Clash {N : Nat} (hN : lim < N) {b : Book} (hb : b.1.length ≤ 1048576) (x : Txt) {may : List Txt} (hm : may.length ≤ 1048576) : spec_l2Clash N b x may = some (may.any fun v => isFoe b x v) := by
  have hlim := lim_eq
  unfold spec_l2Clash spec_l2Clashb
  refine (lp_allI may _ (fun _ v => !(isFoe b x v)) (some true) (some false) (fun g i hi => ?_) (fun g => ?_) N (by omega)).trans ?_
  · unfold spec_l2Clash_0r
    simp only [dlt hi, dge, gAt hi, cond_true, wrS (show i ≤ 1000000000000000000 by omega)]
    rw [ob_eq (l2Foes hN hb _ _)]
    cases isFoe b x may[i] <;> rfl
  · unfold spec_l2Clash_0r
    rw [dnlt]; rfl
  · rw [allI_all, not_any]
    cases may.any fun v => isFoe b x v <;> rfl
theorem implFoes {N : Nat} (hN : lim < N) {b : Book} (hb : b.1.length ≤ 1048576) {x y : List Txt} (hx : x.length ≤ 1048576) (hy : y.length ≤ 1048576) : impl_ClaimBook_foes N b x y = some (clash b x y) := by
  have hlim := lim_eq
  unfold impl_ClaimBook_foes impl_ClaimBook_foesb
  refine (lp_allI b.1 _ (fun _ f => !((x.contains f.1 && y.contains f.2) || (x.contains f.2 && y.contains f.1))) (some true) (some false) (fun g i hi => ?_) (fun g => ?_) N (by omega)).trans ?_
  · unfold impl_ClaimBook_foes_0r
    simp only [dlt hi, dge, gAt hi, cond_true, wrS (show i ≤ 1000000000000000000 by omega)]
    simp only [ob_eq (slicesContains hN (show x.length ≤ lim by omega) _), ob_eq (slicesContains hN (show y.length ≤ lim by omega) _)]
    generalize x.contains b.1[i].1 = a1
    generalize y.contains b.1[i].2 = a2
    generalize x.contains b.1[i].2 = a3
    generalize y.contains b.1[i].1 = a4
    cases a1 <;> cases a2 <;> cases a3 <;> cases a4 <;> rfl
  · unfold impl_ClaimBook_foes_0r
    rw [dnlt]; rfl
  · rw [allI_all, not_any]
    unfold clash
    cases b.1.any fun f => (x.contains f.1 && y.contains f.2) || (x.contains f.2 && y.contains f.1) <;> rfl

def ahead (f g : Foe) : Bool := Op.bytesLess f.1 g.1 || (f.1 == g.1 && Op.bytesLess f.2 g.2)
def foeOk (b : Book) (i : Nat) (f : Foe) : Bool := nmOk f.1 && (nmOk f.2 && (Op.bytesLess f.1 f.2 && (i == 0 || ahead (b.1.getD (i - 1) dFoe) f)))
def foesOk (b : Book) : Bool := !decide ((b.1.length : Int) > 12) && allI (foeOk b) 0 b.1
theorem implAhead {N : Nat} (f g : Foe) : impl_ClaimFoe_ahead N f g = some (ahead f g) := by
  unfold impl_ClaimFoe_ahead ahead
  cases Op.bytesLess f.1 g.1 <;> cases (f.1 == g.1) <;> rfl
theorem l2FoesOk {N : Nat} (hN : lim < N) (b : Book) : spec_l2FoesOk N b = some (foesOk b) := by
  have hlim := lim_eq
  unfold spec_l2FoesOk spec_l2FoesOkb foesOk
  cases hb : decide ((b.1.length : Int) > 12) with
  | true => rfl
  | false =>
    have hl : b.1.length ≤ 12 := by have := of_decide_eq_false hb; omega
    refine (lp_allI b.1 _ (foeOk b) (some false) (some true) (fun g i hi => ?_) (fun g => ?_) N (by omega)).trans ?_
    · unfold spec_l2FoesOk_0r foeOk
      simp only [dlt hi, dge, gAt hi, cond_true, wrS (show i ≤ 1000000000000000000 by omega), dgt0]
      rw [ob_eq (l1NameOk hN _)]
      simp only [ob_eq (l1NameOk hN b.1[i].2)]
      cases nmOk b.1[i].1 with
      | false => rfl
      | true =>
        cases nmOk b.1[i].2 with
        | false => rfl
        | true =>
          cases Op.bytesLess b.1[i].1 b.1[i].2 with
          | false => rfl
          | true =>
            cases h0 : i == 0 with
            | true => rfl
            | false =>
              have h0' : 0 < i := by simp at h0; omega
              simp only [Bool.not_true, Bool.not_false, cond_true, cond_false, wrP (show i ≤ 1000000000000000000 by omega) h0', dge, dlt (show i - 1 < b.1.length by omega), gAt', Bool.false_or, Bool.true_and, ahead]
              cases he : (b.1.getD (i - 1) dFoe).1 == b.1[i].1 with
              | false => cases Op.bytesLess (b.1.getD (i - 1) dFoe).1 b.1[i].1 <;> rfl
              | true =>
                rw [eq_of_beq he, less_irrefl]
                cases Op.bytesLess (b.1.getD (i - 1) dFoe).2 b.1[i].2 <;> rfl
    · unfold spec_l2FoesOk_0r
      rw [dnlt]; rfl
    · cases allI (foeOk b) 0 b.1 <;> rfl

/-! Places -/
/-- The place of a spot, -1 if it is not there. -/
def atB (b : Book) (n : Txt) : Int := idxB (fun s : Spot => s.1 == n) 0 b.2.1
theorem l2Spot {N : Nat} (hN : lim < N) {b : Book} (hb : b.2.1.length ≤ 1048576) (n : Txt) : spec_l2Spot N b n = some (atB b n) := by
  have hlim := lim_eq
  unfold spec_l2Spot spec_l2Spotb atB
  refine lp_idx b.2.1 _ (fun s : Spot => s.1 == n) (fun g i hi => ?_) (fun g => ?_) N (by omega)
  · unfold spec_l2Spot_0r
    simp only [dlt hi, dge, gAt hi, cond_true, wrS (show i ≤ 1000000000000000000 by omega)]
  · unfold spec_l2Spot_0r
    rw [dnlt]; rfl
theorem implAt {N : Nat} (hN : lim < N) {b : Book} (hb : b.2.1.length ≤ 1048576) (n : Txt) : impl_ClaimBook_at N b n = some (atB b n) := by
  have hlim := lim_eq
  unfold impl_ClaimBook_at atB
  have h : slices_IndexFunc_ClaimSpot__impl_ClaimBook_at_c1 N b.2.1 n = some (idxB (fun s : Spot => s.1 == n) 0 b.2.1, n) := by
    unfold slices_IndexFunc_ClaimSpot__impl_ClaimBook_at_c1 slices_IndexFunc_ClaimSpot__impl_ClaimBook_at_c1b
    refine lp_idxC b.2.1 _ (fun s : Spot => s.1 == n) n (fun g i hi => ?_) (fun g => ?_) N (by omega)
    · unfold slices_IndexFunc_ClaimSpot__impl_ClaimBook_at_c1_0r
      simp only [dlt hi, dge, gAt hi, cond_true, wrS (show i ≤ 1000000000000000000 by omega)]
      rw [ob_eq (show impl_ClaimBook_at_c1 N b.2.1[i] n = some (b.2.1[i].1 == n, n) from rfl)]
    · unfold slices_IndexFunc_ClaimSpot__impl_ClaimBook_at_c1_0r
      rw [dnlt]; rfl
  rw [ob_eq h]
theorem idxB_lt {α : Type} (p : α → Bool) : ∀ (l : List α) (i : Nat), 0 ≤ idxB p i l → idxB p i l < i + l.length
  | [], _, h => by simp [idxB] at h
  | x :: xs, i, h => by
    simp only [idxB] at h ⊢
    by_cases hp : p x = true
    · simp only [hp, cond_true, List.length_cons] at h ⊢; omega
    · have hp : p x = false := by simpa using hp
      simp only [hp, cond_false, List.length_cons] at h ⊢
      have := idxB_lt p xs (i + 1) h
      omega

theorem l1All {N : Nat} (hN : lim < N) {a b : List Txt} (ha : a.length ≤ 1048576) (hb : b.length ≤ 1048576) : spec_l1All N a b = some (a.all fun x => b.contains x) := by
  have hlim := lim_eq
  unfold spec_l1All spec_l1Allb
  refine (lp_allI a _ (fun _ x => b.contains x) (some false) (some true) (fun g i hi => ?_) (fun g => ?_) N (by omega)).trans ?_
  · unfold spec_l1All_0r
    simp only [dlt hi, dge, gAt hi, cond_true, wrS (show i ≤ 1000000000000000000 by omega)]
    rw [ob_eq (l1Has hN (show b.length ≤ lim by omega) _)]
    cases b.contains a[i] <;> rfl
  · unfold spec_l1All_0r
    rw [dnlt]; rfl
  · rw [allI_all]
    cases a.all fun x => b.contains x <;> rfl
theorem implWithin {N : Nat} (hN : lim < N) {a b : List Txt} (ha : a.length ≤ 1048576) (hb : b.length ≤ 1048576) : impl_within N a b = some (a.all fun x => b.contains x) := by
  have hlim := lim_eq
  unfold impl_within slices_ContainsFunc_string__impl_within_c1
  have h : slices_IndexFunc_string__impl_within_c1 N a b = some (idxB (fun x => !b.contains x) 0 a, b) := by
    unfold slices_IndexFunc_string__impl_within_c1 slices_IndexFunc_string__impl_within_c1b
    refine lp_idxC a _ (fun x => !b.contains x) b (fun g i hi => ?_) (fun g => ?_) N (by omega)
    · unfold slices_IndexFunc_string__impl_within_c1_0r
      simp only [dlt hi, dge, gAt hi, cond_true, wrS (show i ≤ 1000000000000000000 by omega)]
      have h1 : impl_within_c1 N a[i] b = some (!b.contains a[i], b) := by
        unfold impl_within_c1
        rw [ob_eq (slicesContains hN (show b.length ≤ lim by omega) _)]
      rw [ob_eq h1]
    · unfold slices_IndexFunc_string__impl_within_c1_0r
      rw [dnlt]; rfl
  rw [ob_eq (a := (!(a.all fun x => b.contains x), b)) (by rw [ob_eq h, idxB_nonneg, not_all]), Bool.not_not]

def knowsB (b : Book) (w : Want) : Bool := (w.2.2.2.1.all fun u => !decide (atB b u.1 < 0)) && ((w.2.2.2.2.1.all fun x => b.2.2.1.contains x) && (w.2.2.2.2.2.all fun x => b.2.2.1.contains x))
theorem l2Knows {N : Nat} (hN : lim < N) {b : Book} {w : Want} (hb : smB b) (hw : smW w) : spec_l2Knows N b w = some (knowsB b w) := by
  have hlim := lim_eq
  have h1 := hw.2.1.1
  have h2 : w.2.2.2.2.1.length ≤ 1048576 := hw.2.2.1.1
  have h3 : w.2.2.2.2.2.length ≤ 1048576 := hw.2.2.2.1
  have h4 : b.2.2.1.length ≤ 1048576 := hb.2.2.1.1
  have h5 := hb.2.1.1
  unfold spec_l2Knows spec_l2Knowsb knowsB
  have k4 : spec_l2Knows_4 N b w N 0 = some (w.2.2.2.2.2.all fun x => b.2.2.1.contains x) := by
    refine (lp_allI w.2.2.2.2.2 _ (fun _ x => b.2.2.1.contains x) (some false) (some true) (fun g i hi => ?_) (fun g => ?_) N (by omega)).trans ?_
    · unfold spec_l2Knows_4r
      simp only [dlt hi, dge, gAt hi, cond_true, wrS (show i ≤ 1000000000000000000 by omega)]
      rw [ob_eq (l1Has hN (show b.2.2.1.length ≤ lim by omega) _)]
      cases b.2.2.1.contains w.2.2.2.2.2[i] <;> rfl
    · unfold spec_l2Knows_4r
      rw [dnlt]; rfl
    · rw [allI_all]
      cases w.2.2.2.2.2.all fun x => b.2.2.1.contains x <;> rfl
  have k2 : spec_l2Knows_2 N b w N 0 = some ((w.2.2.2.2.1.all fun x => b.2.2.1.contains x) && (w.2.2.2.2.2.all fun x => b.2.2.1.contains x)) := by
    refine (lp_allI w.2.2.2.2.1 _ (fun _ x => b.2.2.1.contains x) (some false) (spec_l2Knows_4 N b w N 0) (fun g i hi => ?_) (fun g => ?_) N (by omega)).trans ?_
    · unfold spec_l2Knows_2r
      simp only [dlt hi, dge, gAt hi, cond_true, wrS (show i ≤ 1000000000000000000 by omega)]
      rw [ob_eq (l1Has hN (show b.2.2.1.length ≤ lim by omega) _)]
      cases b.2.2.1.contains w.2.2.2.2.1[i] <;> rfl
    · unfold spec_l2Knows_2r
      rw [dnlt]; rfl
    · rw [allI_all, k4]
      cases w.2.2.2.2.1.all fun x => b.2.2.1.contains x <;> rfl
  refine (lp_allI w.2.2.2.1 _ (fun _ u => !decide (atB b u.1 < 0)) (some false) (spec_l2Knows_2 N b w N 0) (fun g i hi => ?_) (fun g => ?_) N (by omega)).trans ?_
  · unfold spec_l2Knows_0r
    simp only [dlt hi, dge, gAt hi, cond_true, wrS (show i ≤ 1000000000000000000 by omega)]
    rw [ob_eq (l2Spot hN h5 _)]
    cases decide (atB b w.2.2.2.1[i].1 < 0) <;> rfl
  · unfold spec_l2Knows_0r
    rw [dnlt]; rfl
  · rw [allI_all, k2]
    cases w.2.2.2.1.all fun u => !decide (atB b u.1 < 0) <;> rfl
theorem implKnows {N : Nat} (hN : lim < N) {b : Book} {w : Want} (hb : smB b) (hw : smW w) : impl_ClaimBook_knows N b w = some (knowsB b w) := by
  have hlim := lim_eq
  have h1 := hw.2.1.1
  have h2 : w.2.2.2.2.1.length ≤ 1048576 := hw.2.2.1.1
  have h3 : w.2.2.2.2.2.length ≤ 1048576 := hw.2.2.2.1
  have h4 : b.2.2.1.length ≤ 1048576 := hb.2.2.1.1
  have h5 := hb.2.1.1
  unfold impl_ClaimBook_knows impl_ClaimBook_knowsb knowsB
  refine (lp_allI w.2.2.2.1 _ (fun _ u => !decide (atB b u.1 < 0)) (some false) (some ((w.2.2.2.2.1.all fun x => b.2.2.1.contains x) && (w.2.2.2.2.2.all fun x => b.2.2.1.contains x))) (fun g i hi => ?_) (fun g => ?_) N (by omega)).trans ?_
  · unfold impl_ClaimBook_knows_0r
    simp only [dlt hi, dge, gAt hi, cond_true, wrS (show i ≤ 1000000000000000000 by omega)]
    rw [ob_eq (implAt hN h5 _)]
    cases decide (atB b w.2.2.2.1[i].1 < 0) <;> rfl
  · unfold impl_ClaimBook_knows_0r
    rw [dnlt, cond_false, ob_eq (implWithin hN h2 h4)]
    simp only [ob_eq (implWithin hN h3 h4)]
    cases w.2.2.2.2.1.all fun x => b.2.2.1.contains x <;> rfl
  · rw [allI_all]
    cases w.2.2.2.1.all fun u => !decide (atB b u.1 < 0) <;> rfl

/-! Parts -/
/-- What was granted of a place is in its spot. -/
def useIn (s : Spot) (w : Want) (u : Use) : Bool :=
  !((w.2.1 == 2) && decide (s.2.2.2.1 > 0)) && (!((w.2.1 == 1) && (!(u.2.1 == 2) && !(s.2.2.2.2.all fun x => w.2.2.1.contains x))) && (!((w.2.1 == 1) && (!(u.2.1 == 1) && !(w.2.2.1.all fun x => s.2.2.2.2.contains x))) && decide (IntKind.i64.wrap (s.2.2.1 + u.2.2) ≤ s.2.2.2.1)))
theorem l2UseOk {N : Nat} (hN : lim < N) {s : Spot} {w : Want} (hs : smS s) (hw : smW w) (u : Use) : spec_l2UseOk N s w u = some (useIn s w u) := by
  unfold spec_l2UseOk useIn
  simp only [ob_eq (l1All hN hs.2.1 hw.1.1), ob_eq (l1All hN hw.1.1 hs.2.1), bne]
  generalize (w.2.1 == 2) = x0
  generalize decide (s.2.2.2.1 > 0) = x1
  generalize (w.2.1 == 1) = x2
  generalize (u.2.1 == 2) = x3
  generalize (u.2.1 == 1) = x4
  generalize (s.2.2.2.2.all fun x => w.2.2.1.contains x) = x5
  generalize (w.2.2.1.all fun x => s.2.2.2.2.contains x) = x6
  generalize decide (IntKind.i64.wrap (s.2.2.1 + u.2.2) ≤ s.2.2.2.1) = x7
  revert x0 x1 x2 x3 x4 x5 x6 x7
  decide +kernel

def spotAt (b : Book) (n : Txt) : Spot := b.2.1.getD (atB b n).toNat dSpot
def partOk (b : Book) (p : Part) : Bool := !decide (p.1.1 > b.2.2.2.2) && (wantOk p.1 && (knowsB b p.1 && p.1.2.2.2.1.all fun u => useIn (spotAt b u.1) p.1 u))
theorem at_of_knows {b : Book} {w : Want} (h : knowsB b w = true) {i : Nat} (hi : i < w.2.2.2.1.length) : 0 ≤ atB b w.2.2.2.1[i].1 ∧ atB b w.2.2.2.1[i].1 < b.2.1.length := by
  simp only [knowsB, Bool.and_eq_true] at h
  have h1 := List.all_eq_true.1 h.1 _ (List.getElem_mem hi)
  have h2 : 0 ≤ atB b w.2.2.2.1[i].1 := by
    have : ¬ atB b w.2.2.2.1[i].1 < 0 := by simpa using h1
    omega
  refine ⟨h2, ?_⟩
  have := idxB_lt (fun s : Spot => s.1 == w.2.2.2.1[i].1) b.2.1 0 h2
  unfold atB
  omega
theorem getD_mem {α : Type} {l : List α} {i : Nat} (h : i < l.length) (d : α) : l.getD i d ∈ l := by
  rw [List.getD_eq_getElem?_getD, List.getElem?_eq_getElem h]
  exact List.getElem_mem h
theorem spotAt_mem {b : Book} {n : Txt} (h : 0 ≤ atB b n) (h2 : atB b n < b.2.1.length) : spotAt b n ∈ b.2.1 := getD_mem (by omega) _

theorem l2PartOk {N : Nat} (hN : lim < N) {b : Book} {p : Part} (hb : smB b) (hp : smP p) : spec_l2PartOk N b p = some (partOk b p) := by
  have hlim := lim_eq
  have h1 := hp.2.1.1
  unfold spec_l2PartOk spec_l2PartOkb partOk
  rw [ob_eq (specWantOk hN hp)]
  simp only [ob_eq (l2Knows hN hb hp)]
  cases wantOk p.1 with
  | false => cases decide (p.1.1 > b.2.2.2.2) <;> rfl
  | true =>
    cases decide (p.1.1 > b.2.2.2.2) with
    | true => rfl
    | false =>
      cases hk : knowsB b p.1 with
      | false => rfl
      | true =>
        refine (lp_allI p.1.2.2.2.1 _ (fun _ u => useIn (spotAt b u.1) p.1 u) (some false) (some true) (fun g i hi => ?_) (fun g => ?_) N (by omega)).trans ?_
        · obtain ⟨h2, h3⟩ := at_of_knows hk hi
          unfold spec_l2PartOk_0r
          simp only [dlt hi, dge, gAt hi, cond_true, wrS (show i ≤ 1000000000000000000 by omega)]
          rw [ob_eq (l2Spot hN hb.2.1.1 _), decide_eq_true h2, decide_eq_true h3]
          simp only [cond_true, show b.2.1.getD (atB b p.1.2.2.2.1[i].1).toNat dSpot = spotAt b p.1.2.2.2.1[i].1 from rfl]
          rw [ob_eq (l2UseOk hN (hb.2.1.2 _ (spotAt_mem h2 h3)) hp _)]
          cases useIn (spotAt b p.1.2.2.2.1[i].1) p.1 p.1.2.2.2.1[i] <;> rfl
        · unfold spec_l2PartOk_0r
          rw [dnlt]; rfl
        · rw [allI_all]
          cases p.1.2.2.2.1.all fun u => useIn (spotAt b u.1) p.1 u <;> rfl

theorem implPartOk {N : Nat} (hN : lim < N) {b : Book} {p : Part} (hb : smB b) (hp : smP p) (hm : ∀ s ∈ b.2.1, 0 ≤ s.2.2.2.1) : impl_ClaimBook_partOk N b p = some (partOk b p) := by
  have hlim := lim_eq
  have h1 := hp.2.1.1
  unfold impl_ClaimBook_partOk impl_ClaimBook_partOkb partOk
  cases decide (p.1.1 > b.2.2.2.2) with
  | true => rfl
  | false =>
    simp only [cond_false, Bool.not_false, Bool.true_and, ob_eq (implWantOk hN hp), ob_eq (implKnows hN hb hp)]
    cases wantOk p.1 with
    | false => rfl
    | true =>
      cases hk : knowsB b p.1 with
      | false => rfl
      | true =>
        refine (lp_allI p.1.2.2.2.1 _ (fun _ u => useIn (spotAt b u.1) p.1 u) (some false) (some true) (fun g i hi => ?_) (fun g => ?_) N (by omega)).trans ?_
        · obtain ⟨h2, h3⟩ := at_of_knows hk hi
          have hmem := spotAt_mem h2 h3
          have hmost := hm _ hmem
          unfold impl_ClaimBook_partOk_0r
          simp only [dlt hi, dge, gAt hi, cond_true, wrS (show i ≤ 1000000000000000000 by omega)]
          rw [ob_eq (implAt hN hb.2.1.1 _), decide_eq_true h2, decide_eq_true h3]
          simp only [cond_true]
          change (bif decide (IntKind.i64.wrap ((spotAt b p.1.2.2.2.1[i].1).2.2.1 + p.1.2.2.2.1[i].2.2) > (spotAt b p.1.2.2.2.1[i].1).2.2.2.1) then _ else _) = _
          simp only [show b.2.1.getD (atB b p.1.2.2.2.1[i].1).toNat dSpot = spotAt b p.1.2.2.2.1[i].1 from rfl]
          generalize spotAt b p.1.2.2.2.1[i].1 = s at hmem hmost ⊢
          generalize p.1.2.2.2.1[i] = u
          simp only [ob_eq (implWithin hN (hb.2.1.2 s hmem).2.1 hp.1.1), ob_eq (implWithin hN hp.1.1 (hb.2.1.2 s hmem).2.1), bne]
          have e1 : (s.2.2.2.1 == 0) = !decide (s.2.2.2.1 > 0) := by
            by_cases h : s.2.2.2.1 = 0
            · rw [h]; rfl
            · rw [decide_eq_true (by omega)]
              exact beq_eq_false_iff_ne.2 h
          have e2 : decide (IntKind.i64.wrap (s.2.2.1 + u.2.2) > s.2.2.2.1) = !decide (IntKind.i64.wrap (s.2.2.1 + u.2.2) ≤ s.2.2.2.1) := by
            by_cases h : IntKind.i64.wrap (s.2.2.1 + u.2.2) ≤ s.2.2.2.1
            · rw [decide_eq_true h, decide_eq_false (by omega)]; rfl
            · rw [decide_eq_false h, decide_eq_true (by omega)]; rfl
          rw [e1, e2]
          unfold useIn
          generalize (p.1.2.1 == 2) = x0
          generalize decide (s.2.2.2.1 > 0) = x1
          generalize (p.1.2.1 == 1) = x2
          generalize (u.2.1 == 2) = x3
          generalize (u.2.1 == 1) = x4
          generalize (s.2.2.2.2.all fun x => p.1.2.2.1.contains x) = x5
          generalize (p.1.2.2.1.all fun x => s.2.2.2.2.contains x) = x6
          generalize decide (IntKind.i64.wrap (s.2.2.1 + u.2.2) ≤ s.2.2.2.1) = x7
          generalize g ((i + 1 : Nat) : Int) = gg
          cases x7 <;> cases x0 <;> cases x1 <;> cases x2 <;> cases x3 <;> cases x4 <;> cases x5 <;> cases x6 <;> rfl
        · unfold impl_ClaimBook_partOk_0r
          rw [dnlt]; rfl
        · rw [allI_all]
          cases p.1.2.2.2.1.all fun u => useIn (spotAt b u.1) p.1 u <;> rfl
end Go.MC

/- ClaimBookOk and ClaimMay: the laws. -/
set_option linter.unusedVariables false
set_option linter.unusedSimpArgs false
namespace Go.MC
open Go.MC.F

/-! Spots -/
def spotOk (b : Book) (s : Spot) : Bool := nmOk s.1 && (inB s.2.1 0 1000 && (inB s.2.2.1 0 s.2.2.2.1 && (!decide (s.2.2.2.1 > s.2.1) && (nmsOk s.2.2.2.2 8 && !clash b s.2.2.2.2 s.2.2.2.2))))
def spotI (b : Book) (i : Nat) (s : Spot) : Bool := spotOk b s && (i == 0 || Op.bytesLess (b.2.1.getD (i - 1) dSpot).1 s.1)
def spotsOk (b : Book) : Bool := !decide ((b.2.1.length : Int) > 8) && allI (spotI b) 0 b.2.1

theorem l2SpotOk {N : Nat} (hN : lim < N) {b : Book} {s : Spot} (hb : b.1.length ≤ 1048576) (hs : smS s) : spec_l2SpotOk N b s = some (spotOk b s) := by
  have hlim := lim_eq
  have h1 := hs.2.1
  unfold spec_l2SpotOk spec_l2SpotOkb spotOk
  rw [ob_eq (l1NameOk hN _)]
  simp only [ob_eq (l1In s.2.1 0 1000), ob_eq (l1In s.2.2.1 0 s.2.2.2.1), ob_eq (l1NamesOk hN (show s.2.2.2.2.length ≤ lim by omega) 8)]
  have loop : spec_l2SpotOk_0 N b s N 0 = some (!clash b s.2.2.2.2 s.2.2.2.2) := by
    refine (lp_allI s.2.2.2.2 _ (fun _ x => !(s.2.2.2.2.any fun v => isFoe b x v)) (some false) (some true) (fun g i hi => ?_) (fun g => ?_) N (by omega)).trans ?_
    · unfold spec_l2SpotOk_0r
      simp only [dlt hi, dge, gAt hi, cond_true, wrS (show i ≤ 1000000000000000000 by omega)]
      rw [ob_eq (l2Clash hN hb _ h1)]
      cases s.2.2.2.2.any fun v => isFoe b s.2.2.2.2[i] v <;> rfl
    · unfold spec_l2SpotOk_0r
      rw [dnlt]; rfl
    · rw [allI_all, not_any, clash_eq]
      cases s.2.2.2.2.any fun u => s.2.2.2.2.any fun v => isFoe b u v <;> rfl
  rw [loop]
  cases nmOk s.1 <;> cases inB s.2.1 0 1000 <;> cases inB s.2.2.1 0 s.2.2.2.1 <;> cases decide (s.2.2.2.1 > s.2.1) <;> cases nmsOk s.2.2.2.2 8 <;> rfl

/-! Wants that have something in common -/
def share (a b : Want) : Bool := a.2.2.2.1.any fun u => b.2.2.2.1.any fun v => u.1 == v.1
def cross (a b : Want) : Bool := (a.2.2.2.2.1.any fun x => b.2.2.2.2.1.contains x) || ((a.2.2.2.2.1.any fun x => b.2.2.2.2.2.contains x) || (a.2.2.2.2.2.any fun x => b.2.2.2.2.1.contains x))

/-- A loop that appends. -/
theorem lp_app {α β : Type} {l : List α} {rd : (Int → List β → Option (List β)) → Int → List β → Option (List β)} (f : α → β)
    (hstep : ∀ (g : Int → List β → Option (List β)) (i : Nat) (out : List β) (h : i < l.length), out.length ≤ i → rd g (i : Int) out = g ((i + 1 : Nat) : Int) (out ++ [f l[i]]))
    (hend : ∀ (g : Int → List β → Option (List β)) (out : List β), rd g (l.length : Int) out = some out) {N : Nat} (hN : l.length < N) : lp (fun _ _ => none) rd N 0 [] = some (l.map f) := by
  have := lp_walk l (fun (g : Int → List β → Option (List β)) i (d : List β) => g (i : Int) d) (fun _ _ => none) rd (fun i d x => .inl (d ++ [f x])) (fun d => some d) (fun i d => d.length ≤ i)
    (fun g i st h hi => ⟨hstep g i st h hi, fun st' hs => by cases hs; simp; omega⟩) (fun g d hd => hend g d) N hN [] (by simp)
  refine this.trans ?_
  have : ∀ (l : List α) i (d : List β), outW (fun d => some d) (walkL (fun i (d : List β) x => (Sum.inl (d ++ [f x]) : List β ⊕ Option (List β))) i l d) = some (d ++ l.map f) := by
    intro l
    induction l with
    | nil => intro i d; simp [walkL, outW]
    | cons x xs ih =>
      intro i d
      simp only [walkL]
      rw [ih (i + 1) (d ++ [f x])]
      simp
  rw [this l 0 []]; rfl

theorem l2Uses {N : Nat} (hN : lim < N) {w : Want} (hw : smW w) : spec_l2Uses N w = some (w.2.2.2.1.map (·.1)) := by
  have hlim := lim_eq
  have h1 := hw.2.1.1
  unfold spec_l2Uses spec_l2Usesb
  refine lp_app (l := w.2.2.2.1) (fun u : Use => u.1) (fun g i out hi ho => ?_) (fun g out => ?_) (by omega)
  · unfold spec_l2Uses_0r
    simp only [dlt hi, dge, gAt hi, cond_true, wrS (show i ≤ 1000000000000000000 by omega)]
    have : decide ((out.length + [w.2.2.2.1[i].1].length) * 16 ≤ lim) = true := decide_eq_true (by simp; omega)
    simp only [this, cond_true]
  · unfold spec_l2Uses_0r
    rw [dnlt]; rfl
theorem share_eq (a b : Want) : ((a.2.2.2.1.map (·.1)).any fun x => (b.2.2.2.1.map (·.1)).contains x) = share a b := by
  unfold share
  rw [List.any_map]
  congr 1
  funext u
  simp only [Function.comp, List.contains_eq_any_beq, List.any_map]
  rfl
theorem l2Share {N : Nat} (hN : lim < N) {a b : Want} (ha : smW a) (hb : smW b) : spec_l1Share N (a.2.2.2.1.map (·.1)) (b.2.2.2.1.map (·.1)) = some (share a b) := by
  have hlim := lim_eq
  have h1 := ha.2.1.1
  have h2 := hb.2.1.1
  rw [l1Share hN (by simp; omega) (by simp; omega), share_eq]
theorem l2Crosses {N : Nat} (hN : lim < N) {a b : Want} (ha : smW a) (hb : smW b) : spec_l2Crosses N a b = some (cross a b) := by
  have hlim := lim_eq
  have h1 : a.2.2.2.2.1.length ≤ 1048576 := ha.2.2.1.1
  have h2 : a.2.2.2.2.2.length ≤ 1048576 := ha.2.2.2.1
  have h3 : b.2.2.2.2.1.length ≤ 1048576 := hb.2.2.1.1
  have h4 : b.2.2.2.2.2.length ≤ 1048576 := hb.2.2.2.1
  unfold spec_l2Crosses cross
  rw [ob_eq (l1Share hN (show a.2.2.2.2.1.length ≤ lim by omega) (show b.2.2.2.2.1.length ≤ lim by omega))]
  simp only [ob_eq (l1Share hN (show a.2.2.2.2.1.length ≤ lim by omega) (show b.2.2.2.2.2.length ≤ lim by omega)), ob_eq (l1Share hN (show a.2.2.2.2.2.length ≤ lim by omega) (show b.2.2.2.2.1.length ≤ lim by omega))]
  cases (a.2.2.2.2.1.any fun x => b.2.2.2.2.1.contains x) <;> cases (a.2.2.2.2.1.any fun x => b.2.2.2.2.2.contains x) <;> rfl
theorem implCross {N : Nat} (hN : lim < N) {a b : Want} (ha : smW a) (hb : smW b) : impl_cross N a b = some (cross a b) := by
  have hlim := lim_eq
  have h1 : a.2.2.2.2.1.length ≤ 1048576 := ha.2.2.1.1
  have h2 : a.2.2.2.2.2.length ≤ 1048576 := ha.2.2.2.1
  have h3 : b.2.2.2.2.1.length ≤ 1048576 := hb.2.2.1.1
  have h4 : b.2.2.2.2.2.length ≤ 1048576 := hb.2.2.2.1
  unfold impl_cross cross
  rw [ob_eq (implCommon hN (show a.2.2.2.2.1.length ≤ lim by omega) (show b.2.2.2.2.1.length ≤ lim by omega))]
  simp only [ob_eq (implCommon hN (show a.2.2.2.2.1.length ≤ lim by omega) (show b.2.2.2.2.2.length ≤ lim by omega)), ob_eq (implCommon hN (show a.2.2.2.2.2.length ≤ lim by omega) (show b.2.2.2.2.1.length ≤ lim by omega))]
  cases (a.2.2.2.2.1.any fun x => b.2.2.2.2.1.contains x) <;> cases (a.2.2.2.2.1.any fun x => b.2.2.2.2.2.contains x) <;> rfl

theorem implShare {N : Nat} (hN : lim < N) {a b : Want} (ha : smW a) (hb : smW b) : impl_share N a b = some (share a b) := by
  have hlim := lim_eq
  have h1 := ha.2.1.1
  have h2 := hb.2.1.1
  have inner : ∀ u : Use, impl_share_c1 N u b = some (b.2.2.2.1.any fun v => u.1 == v.1, b) := by
    intro u
    unfold impl_share_c1 slices_ContainsFunc_ClaimUse__impl_share_c1_c1
    have h : slices_IndexFunc_ClaimUse__impl_share_c1_c1 N b.2.2.2.1 u = some (idxB (fun v : Use => u.1 == v.1) 0 b.2.2.2.1, u) := by
      unfold slices_IndexFunc_ClaimUse__impl_share_c1_c1 slices_IndexFunc_ClaimUse__impl_share_c1_c1b
      have := lp_walk b.2.2.2.1 (fun (g : Int → Txt → Int → Int → Option (Int × Use)) i (d : Use) => g (i : Int) d.1 d.2.1 d.2.2) (fun _ _ _ _ => none) (slices_IndexFunc_ClaimUse__impl_share_c1_c1_0r N b.2.2.2.1 (b.2.2.2.1.length : Int)) (fun i d x => bif u.1 == x.1 then .inr (some ((i : Int), d)) else .inl d) (fun d => some (-1, d)) (fun _ d => d = u)
        (fun g i st h hi => ⟨by
          subst hi
          unfold slices_IndexFunc_ClaimUse__impl_share_c1_c1_0r
          simp only [dlt h, dge, gAt h, cond_true, wrS (show i ≤ 1000000000000000000 by omega)]
          rw [ob_eq (show impl_share_c1_c1 N b.2.2.2.1[i] (st.1, st.2.1, st.2.2) = some (st.1 == b.2.2.2.1[i].1, st) from rfl)]
          cases st.1 == b.2.2.2.1[i].1 <;> rfl, fun st' hs => by
          subst hi
          cases hp : st.1 == b.2.2.2.1[i].1 with
          | true => rw [hp] at hs; cases hs
          | false => rw [hp] at hs; cases hs; rfl⟩) (fun g d hd => by
          subst hd
          unfold slices_IndexFunc_ClaimUse__impl_share_c1_c1_0r
          rw [dnlt]; rfl) N (by omega) u rfl
      refine this.trans ?_
      have : ∀ (l : List Use) i, outW (fun d => some (-1, d)) (walkL (fun i (d : Use) (x : Use) => bif u.1 == x.1 then Sum.inr (some ((i : Int), d)) else Sum.inl d) i l u) = some (idxB (fun v : Use => u.1 == v.1) i l, u) := by
        intro l
        induction l with
        | nil => intro i; rfl
        | cons x xs ih =>
          intro i
          simp only [walkL, idxB]
          cases u.1 == x.1 with
          | false => simpa using ih (i + 1)
          | true => rfl
      exact this b.2.2.2.1 0
    rw [ob_eq (a := (b.2.2.2.1.any fun v => u.1 == v.1, u)) (by rw [ob_eq h, idxB_nonneg])]
  unfold impl_share slices_ContainsFunc_ClaimUse__impl_share_c1 share
  have h : slices_IndexFunc_ClaimUse__impl_share_c1 N a.2.2.2.1 b = some (idxB (fun u : Use => b.2.2.2.1.any fun v => u.1 == v.1) 0 a.2.2.2.1, b) := by
    unfold slices_IndexFunc_ClaimUse__impl_share_c1 slices_IndexFunc_ClaimUse__impl_share_c1b
    have := lp_walk a.2.2.2.1 (fun (g : Int → Int → Int → List Txt → List Use → List Txt → List Txt → Option (Int × Want)) i (d : Want) => g (i : Int) d.1 d.2.1 d.2.2.1 d.2.2.2.1 d.2.2.2.2.1 d.2.2.2.2.2) (fun _ _ _ _ _ _ _ => none) (slices_IndexFunc_ClaimUse__impl_share_c1_0r N a.2.2.2.1 (a.2.2.2.1.length : Int)) (fun i d x => bif b.2.2.2.1.any (fun v => x.1 == v.1) then .inr (some ((i : Int), d)) else .inl d) (fun d => some (-1, d)) (fun _ d => d = b)
      (fun g i st h hi => ⟨by
        subst hi
        unfold slices_IndexFunc_ClaimUse__impl_share_c1_0r
        simp only [dlt h, dge, gAt h, cond_true, wrS (show i ≤ 1000000000000000000 by omega)]
        rw [ob_eq (show impl_share_c1 N a.2.2.2.1[i] (st.1, st.2.1, st.2.2.1, st.2.2.2.1, st.2.2.2.2.1, st.2.2.2.2.2) = some (st.2.2.2.1.any fun v => a.2.2.2.1[i].1 == v.1, st) from inner _)]
        cases st.2.2.2.1.any fun v => a.2.2.2.1[i].1 == v.1 <;> rfl, fun st' hs => by
        subst hi
        cases hp : st.2.2.2.1.any (fun v => a.2.2.2.1[i].1 == v.1) with
        | true => rw [hp] at hs; cases hs
        | false => rw [hp] at hs; cases hs; rfl⟩) (fun g d hd => by
        subst hd
        unfold slices_IndexFunc_ClaimUse__impl_share_c1_0r
        rw [dnlt]; rfl) N (by omega) b rfl
    refine this.trans ?_
    have : ∀ (l : List Use) i, outW (fun d => some (-1, d)) (walkL (fun i (d : Want) (x : Use) => bif b.2.2.2.1.any (fun v => x.1 == v.1) then Sum.inr (some ((i : Int), d)) else Sum.inl d) i l b) = some (idxB (fun u : Use => b.2.2.2.1.any fun v => u.1 == v.1) i l, b) := by
      intro l
      induction l with
      | nil => intro i; rfl
      | cons x xs ih =>
        intro i
        simp only [walkL, idxB]
        cases b.2.2.2.1.any fun v => x.1 == v.1 with
        | false => simpa using ih (i + 1)
        | true => rfl
    exact this a.2.2.2.1 0
  rw [ob_eq (a := (a.2.2.2.1.any fun u => b.2.2.2.1.any fun v => u.1 == v.1, b)) (by rw [ob_eq h, idxB_nonneg])]

/-! Parts -/
def partI (b : Book) (i : Nat) (p : Part) : Bool := partOk b p && ((i == 0 || !decide ((b.2.2.2.1.getD (i - 1) dPart).1.1 ≥ p.1.1)) && (b.2.2.2.1.take i).all fun q => !share p.1 q.1 && !cross p.1 q.1)
def partsOk (b : Book) : Bool := !decide ((b.2.2.2.1.length : Int) > 6) && allI (partI b) 0 b.2.2.2.1
/-- A book is ok. -/
def bookOk (b : Book) : Bool := foesOk b && (nmsOk b.2.2.1 12 && (inB b.2.2.2.2 0 1000000 && (spotsOk b && partsOk b)))

theorem take_get {α : Type} {l : List α} {i k : Nat} (hk : k < (l.take i).length) : l[k]'(by simp at hk; omega) = (l.take i)[k] := by simp

theorem l2PartsOk {N : Nat} (hN : lim < N) {b : Book} (hb : smB b) : spec_l2PartsOk N b = some (partsOk b) := by
  have hlim := lim_eq
  have hlb := hb.2.2.2.1
  unfold spec_l2PartsOk spec_l2PartsOkb partsOk
  cases hlen : decide ((b.2.2.2.1.length : Int) > 6) with
  | true => rfl
  | false =>
    refine (lp_allI b.2.2.2.1 _ (partI b) (some false) (some true) (fun g i hi => ?_) (fun g => ?_) N (by omega)).trans ?_
    · have hp := hb.2.2.2.2 _ (List.getElem_mem hi)
      have inner : spec_l2PartsOk_2 N g b (i : Int) b.2.2.2.1[i].1.1 b.2.2.2.1[i].1.2.1 b.2.2.2.1[i].1.2.2.1 b.2.2.2.1[i].1.2.2.2.1 b.2.2.2.1[i].1.2.2.2.2.1 b.2.2.2.1[i].1.2.2.2.2.2 N 0 =
          bif (b.2.2.2.1.take i).all (fun q => !share b.2.2.2.1[i].1 q.1 && !cross b.2.2.2.1[i].1 q.1) then g ((i + 1 : Nat) : Int) else some false := by
        have hl : (b.2.2.2.1.take i).length = i := by simp; omega
        refine (lp_allI (b.2.2.2.1.take i) _ (fun _ q => !share b.2.2.2.1[i].1 q.1 && !cross b.2.2.2.1[i].1 q.1) (some false) (g ((i + 1 : Nat) : Int)) (fun g2 k hk => ?_) (fun g2 => ?_) N (by omega)).trans ?_
        · have hk' : k < b.2.2.2.1.length := by simp at hk; omega
          have hq := hb.2.2.2.2 _ (List.getElem_mem hk')
          have hki : k < i := by omega
          unfold spec_l2PartsOk_2r
          simp only [dlt hki, dlt hk', dge, gAt hk', cond_true, wrS (show k ≤ 1000000000000000000 by omega)]
          rw [ob_eq (show spec_l2Uses N (b.2.2.2.1[i].1.1, b.2.2.2.1[i].1.2.1, b.2.2.2.1[i].1.2.2.1, b.2.2.2.1[i].1.2.2.2.1, b.2.2.2.1[i].1.2.2.2.2.1, b.2.2.2.1[i].1.2.2.2.2.2) = _ from l2Uses hN hp), ob_eq (l2Uses hN hq), ob_eq (l2Share hN hp hq)]
          rw [← take_get hk]
          cases share b.2.2.2.1[i].1 b.2.2.2.1[k].1 with
          | true => rfl
          | false =>
            simp only [cond_false]
            rw [ob_eq (show spec_l2Crosses N (b.2.2.2.1[i].1.1, b.2.2.2.1[i].1.2.1, b.2.2.2.1[i].1.2.2.1, b.2.2.2.1[i].1.2.2.2.1, b.2.2.2.1[i].1.2.2.2.2.1, b.2.2.2.1[i].1.2.2.2.2.2) b.2.2.2.1[k].1 = _ from l2Crosses hN hp hq)]
            cases cross b.2.2.2.1[i].1 b.2.2.2.1[k].1 <;> rfl
        · unfold spec_l2PartsOk_2r
          rw [hl, dnlt, cond_false, wrS (by omega)]
        · rw [allI_all]
      unfold spec_l2PartsOk_0r partI
      simp only [dlt hi, dge, gAt hi, cond_true, wrS (show i ≤ 1000000000000000000 by omega), dgt0]
      rw [ob_eq (l2PartOk hN hb hp)]
      cases partOk b b.2.2.2.1[i] with
      | false => rfl
      | true =>
        cases h0 : i == 0 with
        | true =>
          simp only [Bool.not_true, cond_false, Bool.true_or, Bool.true_and]
          exact inner
        | false =>
          have h0' : 0 < i := by simp at h0; omega
          simp only [Bool.not_true, Bool.not_false, cond_true, cond_false, wrP (show i ≤ 1000000000000000000 by omega) h0', dge, dlt (show i - 1 < b.2.2.2.1.length by omega), gAt', Bool.false_or, Bool.true_and]
          cases decide ((b.2.2.2.1.getD (i - 1) dPart).1.1 ≥ b.2.2.2.1[i].1.1) with
          | true => rfl
          | false => exact inner
    · unfold spec_l2PartsOk_0r
      rw [dnlt]; rfl
    · cases allI (partI b) 0 b.2.2.2.1 <;> rfl

theorem specBookOk {N : Nat} (hN : lim < N) {b : Book} (hb : smB b) : spec_ClaimBookOk N b = some (bookOk b) := by
  have hlim := lim_eq
  have hls := hb.2.1.1
  have hlv : b.2.2.1.length ≤ 1048576 := hb.2.2.1.1
  unfold spec_ClaimBookOk spec_ClaimBookOkb bookOk spotsOk
  rw [ob_eq (l2FoesOk hN b)]
  simp only [ob_eq (l1NamesOk hN (show b.2.2.1.length ≤ lim by omega) 12), ob_eq (l1In b.2.2.2.2 0 1000000)]
  have loop : spec_ClaimBookOk_0 N b N 0 = some (allI (spotI b) 0 b.2.1 && partsOk b) := by
    refine (lp_allI b.2.1 _ (spotI b) (some false) (some (partsOk b)) (fun g i hi => ?_) (fun g => ?_) N (by omega)).trans ?_
    · unfold spec_ClaimBookOk_0r spotI
      simp only [dlt hi, dge, gAt hi, cond_true, wrS (show i ≤ 1000000000000000000 by omega), dgt0]
      rw [ob_eq (l2SpotOk hN hb.1.1 (hb.2.1.2 _ (List.getElem_mem hi)))]
      cases spotOk b b.2.1[i] with
      | false => rfl
      | true =>
        cases h0 : i == 0 with
        | true => rfl
        | false =>
          have h0' : 0 < i := by simp at h0; omega
          simp only [Bool.not_true, Bool.not_false, cond_true, cond_false, wrP (show i ≤ 1000000000000000000 by omega) h0', dge, dlt (show i - 1 < b.2.1.length by omega), gAt', Bool.false_or, Bool.true_and]
          cases Op.bytesLess (b.2.1.getD (i - 1) dSpot).1 b.2.1[i].1 <;> rfl
    · unfold spec_ClaimBookOk_0r
      rw [dnlt, cond_false, ob_eq (l2PartsOk hN hb)]
    · cases allI (spotI b) 0 b.2.1 <;> rfl
  rw [loop]
  cases foesOk b <;> cases decide ((b.2.1.length : Int) > 8) <;> cases nmsOk b.2.2.1 12 <;> cases inB b.2.2.2.2 0 1000000 <;> rfl

theorem most_of_spots {b : Book} (h : allI (spotI b) 0 b.2.1 = true) : ∀ s ∈ b.2.1, 0 ≤ s.2.2.2.1 := by
  intro s hs
  obtain ⟨i, hi⟩ := List.getElem?_of_mem hs
  have := allI_iff.1 h i s hi
  simp only [spotI, spotOk, inB, Bool.and_eq_true, decide_eq_true_eq] at this
  have := this.1.2.2.1
  omega

theorem implBookOk {N : Nat} (hN : lim < N) {b : Book} (hb : smB b) : impl_ClaimBookOk N b = some (bookOk b) := by
  have hlim := lim_eq
  have hlf := hb.1.1
  have hls := hb.2.1.1
  have hlv : b.2.2.1.length ≤ 1048576 := hb.2.2.1.1
  have hlp := hb.2.2.2.1
  unfold impl_ClaimBookOk impl_ClaimBookOkb bookOk foesOk spotsOk partsOk
  simp only [ob_eq (implNames hN (show b.2.2.1.length ≤ lim by omega) 12), ob_eq (implIn b.2.2.2.2 0 1000000)]
  have k4 : (∀ s ∈ b.2.1, 0 ≤ s.2.2.2.1) → impl_ClaimBookOk_4 N b (b.2.2.2.1.length : Int) N 0 = some (allI (partI b) 0 b.2.2.2.1) := by
    intro hm
    refine (lp_allI b.2.2.2.1 _ (partI b) (some false) (some true) (fun g i hi => ?_) (fun g => ?_) N (by omega)).trans ?_
    · have hp := hb.2.2.2.2 _ (List.getElem_mem hi)
      have inner : ∀ c6, impl_ClaimBookOk_6 N g b (b.2.2.2.1.length : Int) (i : Int) (b.2.2.2.1.take i) ((b.2.2.2.1.take i).length : Int) b.2.2.2.1[i].1.1 b.2.2.2.1[i].1.2.1 b.2.2.2.1[i].1.2.2.1 b.2.2.2.1[i].1.2.2.2.1 b.2.2.2.1[i].1.2.2.2.2.1 b.2.2.2.1[i].1.2.2.2.2.2 c6 N 0 =
          bif (b.2.2.2.1.take i).all (fun q => !share b.2.2.2.1[i].1 q.1 && !cross b.2.2.2.1[i].1 q.1) then g ((i + 1 : Nat) : Int) else some false := by
        intro c6
        have hl : (b.2.2.2.1.take i).length = i := by simp; omega
        refine (lp_allI (b.2.2.2.1.take i) _ (fun _ q => !share b.2.2.2.1[i].1 q.1 && !cross b.2.2.2.1[i].1 q.1) (some false) (g ((i + 1 : Nat) : Int)) (fun g2 k hk => ?_) (fun g2 => ?_) N (by omega)).trans ?_
        · have hk' : k < b.2.2.2.1.length := by simp at hk; omega
          have hq := hb.2.2.2.2 _ (List.mem_of_mem_take (List.getElem_mem hk))
          unfold impl_ClaimBookOk_6r
          simp only [dlt hk, dge, gAt hk, cond_true, wrS (show k ≤ 1000000000000000000 by omega)]
          rw [ob_eq (show impl_share N (b.2.2.2.1[i].1.1, b.2.2.2.1[i].1.2.1, b.2.2.2.1[i].1.2.2.1, b.2.2.2.1[i].1.2.2.2.1, b.2.2.2.1[i].1.2.2.2.2.1, b.2.2.2.1[i].1.2.2.2.2.2) (b.2.2.2.1.take i)[k].1 = _ from implShare hN hp hq)]
          cases share b.2.2.2.1[i].1 (b.2.2.2.1.take i)[k].1 with
          | true => rfl
          | false =>
            simp only [cond_false]
            rw [ob_eq (show impl_cross N (b.2.2.2.1[i].1.1, b.2.2.2.1[i].1.2.1, b.2.2.2.1[i].1.2.2.1, b.2.2.2.1[i].1.2.2.2.1, b.2.2.2.1[i].1.2.2.2.2.1, b.2.2.2.1[i].1.2.2.2.2.2) (b.2.2.2.1.take i)[k].1 = _ from implCross hN hp hq)]
            cases cross b.2.2.2.1[i].1 (b.2.2.2.1.take i)[k].1 <;> rfl
        · unfold impl_ClaimBookOk_6r
          rw [dnlt, cond_false, wrS (by omega)]
        · rw [allI_all]
      unfold impl_ClaimBookOk_4r partI
      simp only [dlt hi, dge, gAt hi, cond_true, wrS (show i ≤ 1000000000000000000 by omega), dgt0]
      have hle : decide ((i : Int) ≤ (b.2.2.2.1.length : Int)) = true := decide_eq_true (by omega)
      have hz : Int.toNat (0 : Int) = 0 := rfl
      have hi' : Int.toNat (i : Int) = i := rfl
      cases h0 : i == 0 with
      | true =>
        simp only [Bool.not_true, cond_false, Bool.true_or, Bool.true_and]
        rw [ob_eq (implPartOk hN hb hp hm)]
        cases partOk b b.2.2.2.1[i] with
        | false => rfl
        | true =>
          simp only [Bool.not_true, cond_false, hle, cond_true, hi', hz, List.drop_zero, Bool.true_and]
          exact inner _
      | false =>
        have h0' : 0 < i := by simp at h0; omega
        simp only [Bool.not_true, Bool.not_false, cond_true, cond_false, wrP (show i ≤ 1000000000000000000 by omega) h0', dge, dlt (show i - 1 < b.2.2.2.1.length by omega), gAt', Bool.false_or, Bool.true_and]
        cases decide ((b.2.2.2.1.getD (i - 1) dPart).1.1 ≥ b.2.2.2.1[i].1.1) with
        | true => simp
        | false =>
          rw [cond_false, ob_eq (implPartOk hN hb hp hm)]
          cases partOk b b.2.2.2.1[i] with
          | false => rfl
          | true =>
            simp only [Bool.not_true, Bool.not_false, cond_false, hle, cond_true, hi', hz, List.drop_zero, Bool.true_and]
            exact inner _
    · unfold impl_ClaimBookOk_4r
      rw [dnlt]; rfl
    · cases allI (partI b) 0 b.2.2.2.1 <;> rfl
  have k2 : impl_ClaimBookOk_2 N b (b.2.1.length : Int) N 0 = some (allI (spotI b) 0 b.2.1 && allI (partI b) 0 b.2.2.2.1) := by
    refine (lp_allI b.2.1 _ (spotI b) (some false) (impl_ClaimBookOk_4 N b (b.2.2.2.1.length : Int) N 0) (fun g i hi => ?_) (fun g => ?_) N (by omega)).trans ?_
    · have hs := hb.2.1.2 _ (List.getElem_mem hi)
      have h1 := hs.2.1
      unfold impl_ClaimBookOk_2r spotI spotOk
      simp only [dlt hi, dge, gAt hi, cond_true, wrS (show i ≤ 1000000000000000000 by omega), dgt0]
      rw [ob_eq (implName hN _)]
      have tail : (ob (impl_in N b.2.1[i].2.1 0 1000) false fun r => bif !r then some false else bif decide (b.2.1[i].2.2.1 < 0) then some false else bif decide (b.2.1[i].2.2.1 > b.2.1[i].2.2.2.1) then some false else bif decide (b.2.1[i].2.2.2.1 > b.2.1[i].2.1) then some false else
          ob (impl_names N b.2.1[i].2.2.2.2 8) false fun r => bif !r then some false else ob (impl_ClaimBook_foes N b b.2.1[i].2.2.2.2 b.2.1[i].2.2.2.2) false fun r => bif r then some false else g ((i + 1 : Nat) : Int)) =
          bif (inB b.2.1[i].2.1 0 1000 && (inB b.2.1[i].2.2.1 0 b.2.1[i].2.2.2.1 && (!decide (b.2.1[i].2.2.2.1 > b.2.1[i].2.1) && (nmsOk b.2.1[i].2.2.2.2 8 && !clash b b.2.1[i].2.2.2.2 b.2.1[i].2.2.2.2)))) then g ((i + 1 : Nat) : Int) else some false := by
        simp only [ob_eq (implIn b.2.1[i].2.1 0 1000), ob_eq (implNames hN (show b.2.1[i].2.2.2.2.length ≤ lim by omega) 8), ob_eq (implFoes hN hlf h1 h1)]
        have e1 : inB b.2.1[i].2.2.1 0 b.2.1[i].2.2.2.1 = (!decide (b.2.1[i].2.2.1 < 0) && !decide (b.2.1[i].2.2.1 > b.2.1[i].2.2.2.1)) := by
          unfold inB
          congr 1
          · by_cases h : b.2.1[i].2.2.1 < 0
            · rw [decide_eq_true h, decide_eq_false (by omega)]; rfl
            · rw [decide_eq_false h, decide_eq_true (by omega)]; rfl
          · by_cases h : b.2.1[i].2.2.1 > b.2.1[i].2.2.2.1
            · rw [decide_eq_true h, decide_eq_false (by omega)]; rfl
            · rw [decide_eq_false h, decide_eq_true (by omega)]; rfl
        rw [e1]
        cases inB b.2.1[i].2.1 0 1000 <;> cases decide (b.2.1[i].2.2.1 < 0) <;> cases decide (b.2.1[i].2.2.1 > b.2.1[i].2.2.2.1) <;> cases decide (b.2.1[i].2.2.2.1 > b.2.1[i].2.1) <;> cases nmsOk b.2.1[i].2.2.2.2 8 <;> cases clash b b.2.1[i].2.2.2.2 b.2.1[i].2.2.2.2 <;> rfl
      cases nmOk b.2.1[i].1 with
      | false => rfl
      | true =>
        cases h0 : i == 0 with
        | true =>
          simp only [Bool.not_true, cond_false, Bool.true_or, Bool.true_and, Bool.and_true]
          exact tail
        | false =>
          have h0' : 0 < i := by simp at h0; omega
          simp only [Bool.not_true, Bool.not_false, cond_true, cond_false, wrP (show i ≤ 1000000000000000000 by omega) h0', dge, dlt (show i - 1 < b.2.1.length by omega), gAt', Bool.false_or, Bool.true_and]
          cases Op.bytesLess (b.2.1.getD (i - 1) dSpot).1 b.2.1[i].1 with
          | false => simp
          | true =>
            simp only [Bool.not_true, cond_false, Bool.and_true]
            exact tail
    · unfold impl_ClaimBookOk_2r
      rw [dnlt]; rfl
    · cases hs : allI (spotI b) 0 b.2.1 with
      | false => rfl
      | true => rw [cond_true, k4 (most_of_spots hs)]; rfl
  have k0 : impl_ClaimBookOk_0 N b (b.1.length : Int) N 0 = some (allI (foeOk b) 0 b.1 && (allI (spotI b) 0 b.2.1 && allI (partI b) 0 b.2.2.2.1)) := by
    refine (lp_allI b.1 _ (foeOk b) (some false) (impl_ClaimBookOk_2 N b (b.2.1.length : Int) N 0) (fun g i hi => ?_) (fun g => ?_) N (by omega)).trans ?_
    · unfold impl_ClaimBookOk_0r foeOk
      simp only [dlt hi, dge, gAt hi, cond_true, wrS (show i ≤ 1000000000000000000 by omega), dgt0]
      rw [ob_eq (implName hN _)]
      simp only [ob_eq (implName hN b.1[i].2)]
      cases nmOk b.1[i].1 with
      | false => rfl
      | true =>
        cases nmOk b.1[i].2 with
        | false => rfl
        | true =>
          cases Op.bytesLess b.1[i].1 b.1[i].2 with
          | false => rfl
          | true =>
            cases h0 : i == 0 with
            | true => rfl
            | false =>
              have h0' : 0 < i := by simp at h0; omega
              simp only [Bool.not_true, Bool.not_false, cond_true, cond_false, wrP (show i ≤ 1000000000000000000 by omega) h0', dge, dlt (show i - 1 < b.1.length by omega), gAt', Bool.false_or, Bool.true_and]
              rw [ob_eq (implAhead _ _)]
              cases ahead (b.1.getD (i - 1) dFoe) b.1[i] <;> rfl
    · unfold impl_ClaimBookOk_0r
      rw [dnlt]; rfl
    · rw [k2]
      cases allI (foeOk b) 0 b.1 <;> rfl
  rw [k0]
  generalize decide ((b.1.length : Int) > 12) = x0
  generalize decide ((b.2.1.length : Int) > 8) = x1
  generalize decide ((b.2.2.2.1.length : Int) > 6) = x2
  generalize nmsOk b.2.2.1 12 = x3
  generalize inB b.2.2.2.2 0 1000000 = x4
  generalize allI (foeOk b) 0 b.1 = x5
  generalize allI (spotI b) 0 b.2.1 = x6
  generalize allI (partI b) 0 b.2.2.2.1 = x7
  revert x0 x1 x2 x3 x4 x5 x6 x7
  decide +kernel

theorem lp_find {α ρ : Type} (l : List α) (rd : (Int → Option ρ) → Int → Option ρ) (p : α → Bool) (f : α → ρ) (z : ρ)
    (hstep : ∀ (g : Int → Option ρ) (i : Nat) (h : i < l.length), rd g (i : Int) = bif p l[i] then some (f l[i]) else g ((i + 1 : Nat) : Int))
    (hend : ∀ (g : Int → Option ρ), rd g (l.length : Int) = some z) (N : Nat) (hN : l.length < N) : lp (fun _ => none) rd N 0 = some (((l.find? p).map f).getD z) := by
  have := lp_walk l (fun (g : Int → Option ρ) i (_ : Unit) => g (i : Int)) (fun _ => none) rd (fun i _ x => bif p x then .inr (some (f x)) else .inl ()) (fun _ => some z) (fun _ _ => True)
    (fun g i st h _ => ⟨by
      rw [hstep g i h]
      cases p l[i] <;> rfl, fun _ _ => trivial⟩) (fun g _ _ => hend g) N hN () trivial
  refine this.trans ?_
  have : ∀ (l : List α) i, outW (fun _ => some z) (walkL (fun i (_ : Unit) x => bif p x then Sum.inr (some (f x)) else Sum.inl ()) i l ()) = some (((l.find? p).map f).getD z) := by
    intro l
    induction l with
    | nil => intro i; rfl
    | cons x xs ih =>
      intro i
      simp only [walkL, List.find?_cons]
      cases p x with
      | false => simpa using ih (i + 1)
      | true => rfl
  exact this l 0
end Go.MC

/- Copies: plain words. -/
set_option linter.unusedVariables false
set_option linter.unusedSimpArgs false
namespace Go.MC
open Go.MC.F

theorem cloneS {N : Nat} {s : List Txt} (h : s.length ≤ 1048576) : slices_Clone_string N s = some s := by
  have hlim := lim_eq
  have h1 : decide ((0 + s.length) * 16 ≤ lim) = true := decide_eq_true (by omega)
  unfold slices_Clone_string
  cases s with
  | nil => exact both_self _
  | cons x xs =>
    rw [h1]
    rfl
theorem cloneU {N : Nat} {s : List Use} (h : s.length ≤ 1048576) : slices_Clone_ClaimUse N s = some s := by
  have hlim := lim_eq
  have h1 : decide ((0 + s.length) * 32 ≤ lim) = true := decide_eq_true (by omega)
  unfold slices_Clone_ClaimUse
  cases s with
  | nil => exact both_self _
  | cons x xs =>
    rw [h1]
    rfl
theorem cloneF {N : Nat} {s : List Foe} (h : s.length ≤ 1048576) : slices_Clone_ClaimFoe N s = some s := by
  have hlim := lim_eq
  have h1 : decide ((0 + s.length) * 32 ≤ lim) = true := decide_eq_true (by omega)
  unfold slices_Clone_ClaimFoe
  cases s with
  | nil => exact both_self _
  | cons x xs =>
    rw [h1]
    rfl
theorem l1Names {N : Nat} {s : List Txt} (h : s.length ≤ 1048576) : spec_l1Names N s = some s := by
  have hlim := lim_eq
  have h1 : decide ((0 + s.length) * 16 ≤ lim) = true := decide_eq_true (by omega)
  unfold spec_l1Names
  rw [h1]; rfl
theorem l1Want {N : Nat} {w : Want} (h : smW w) : spec_l1Want N w = some w := by
  have hlim := lim_eq
  have h2 := h.2.1.1
  have h1 : decide ((0 + List.length w.2.2.2.1) * 32 ≤ lim) = true := decide_eq_true (by omega)
  unfold spec_l1Want
  rw [h1, cond_true, ob_eq (l1Names h.1.1), ob_eq (l1Names h.2.2.1.1), ob_eq (l1Names h.2.2.2.1)]
  rfl
theorem implCopyWant {N : Nat} {w : Want} (h : smW w) : impl_copyWant N w = some w := by
  unfold impl_copyWant
  rw [ob_eq (cloneS h.1.1), ob_eq (cloneU h.2.1.1), ob_eq (cloneS h.2.2.1.1), ob_eq (cloneS h.2.2.2.1)]

/-- A loop that appends, and goes on. -/
theorem lp_appK {α ρ : Type} {l : List α} {rd : (Int → List α → Option ρ) → Int → List α → Option ρ} (fin : List α → Option ρ)
    (hstep : ∀ (g : Int → List α → Option ρ) (i : Nat) (out : List α) (h : i < l.length), out.length ≤ i → rd g (i : Int) out = g ((i + 1 : Nat) : Int) (out ++ [l[i]]))
    (hend : ∀ (g : Int → List α → Option ρ) (out : List α), rd g (l.length : Int) out = fin out) {N : Nat} (hN : l.length < N) : lp (fun _ _ => none) rd N 0 [] = fin l := by
  have := lp_walk l (fun (g : Int → List α → Option ρ) i (d : List α) => g (i : Int) d) (fun _ _ => none) rd (fun i d x => .inl (d ++ [x])) fin (fun i d => d.length ≤ i)
    (fun g i st h hi => ⟨hstep g i st h hi, fun st' hs => by cases hs; simp; omega⟩) (fun g d hd => hend g d) N hN [] (by simp)
  refine this.trans ?_
  have : ∀ (l : List α) i (d : List α), outW fin (walkL (fun i (d : List α) x => (Sum.inl (d ++ [x]) : List α ⊕ Option ρ)) i l d) = fin (d ++ l) := by
    intro l
    induction l with
    | nil => intro i d; simp [walkL, outW]
    | cons x xs ih =>
      intro i d
      simp only [walkL]
      rw [ih (i + 1) (d ++ [x])]
      simp
  rw [this l 0 []]; rfl
theorem l2Copy {N : Nat} (hN : lim < N) {b : Book} (hb : smB b) : spec_l2Copy N b = some b := by
  have hlim := lim_eq
  have h1 := hb.1.1
  have h2 := hb.2.1.1
  have h3 := hb.2.2.2.1
  have hg : decide ((0 + List.length b.1) * 32 ≤ lim) = true := decide_eq_true (by omega)
  unfold spec_l2Copy spec_l2Copyb
  rw [hg, cond_true, ob_eq (l1Names hb.2.2.1.1)]
  refine (lp_appK (l := b.2.1) (fun x => spec_l2Copy_2 N b b.2.2.1 0 ([] ++ b.1) x N 0 []) (fun g i out hi ho => ?_) (fun g out => ?_) (by omega)).trans ?_
  · have hm : b.2.1[i].2.2.2.2.length ≤ 1048576 := (hb.2.1.2 _ (List.getElem_mem hi)).2.1
    unfold spec_l2Copy_0r
    simp only [dlt hi, dge, gAt hi, cond_true, wrS (show i ≤ 1000000000000000000 by omega), ob_eq (l1Names (N := N) hm)]
    have hg : decide ((out.length + [(b.2.1[i].1, b.2.1[i].2.1, b.2.1[i].2.2.1, b.2.1[i].2.2.2.1, b.2.1[i].2.2.2.2)].length) * 64 ≤ lim) = true := decide_eq_true (by simp only [List.length_cons, List.length_nil]; omega)
    rw [hg, cond_true]
  · unfold spec_l2Copy_0r
    rw [dnlt]; rfl
  · refine (lp_appK (l := b.2.2.2.1) (fun x => some (b.1, b.2.1, b.2.2.1, x, b.2.2.2.2)) (fun g i out hi ho => ?_) (fun g out => ?_) (by omega)).trans rfl
    · have hp : smW b.2.2.2.1[i].1 := hb.2.2.2.2 _ (List.getElem_mem hi)
      unfold spec_l2Copy_2r
      simp only [dlt hi, dge, gAt hi, cond_true, wrS (show i ≤ 1000000000000000000 by omega), ob_eq (l1Want (N := N) hp)]
      have hg : decide ((out.length + [(b.2.2.2.1[i].1, b.2.2.2.1[i].2)].length) * 120 ≤ lim) = true := decide_eq_true (by simp only [List.length_cons, List.length_nil]; omega)
      rw [hg, cond_true]
    · unfold spec_l2Copy_2r
      rw [dnlt]; rfl
theorem implCopy {N : Nat} (hN : lim < N) {b : Book} (hb : smB b) : impl_copyBook N b = some b := by
  have hlim := lim_eq
  have h1 := hb.1.1
  have h2 := hb.2.1.1
  have h3 := hb.2.2.2.1
  unfold impl_copyBook impl_copyBookb
  rw [ob_eq (cloneF hb.1.1), ob_eq (cloneS hb.2.2.1.1)]
  refine (lp_appK (l := b.2.1) (fun x => impl_copyBook_2 N b b.1 b.2.2.1 0 x (b.2.2.2.1.length : Int) N 0 []) (fun g i out hi ho => ?_) (fun g out => ?_) (by omega)).trans ?_
  · have hm : b.2.1[i].2.2.2.2.length ≤ 1048576 := (hb.2.1.2 _ (List.getElem_mem hi)).2.1
    unfold impl_copyBook_0r
    simp only [dlt hi, dge, gAt hi, cond_true, wrS (show i ≤ 1000000000000000000 by omega), ob_eq (cloneS (N := N) hm)]
    have hg : decide ((out.length + [(b.2.1[i].1, b.2.1[i].2.1, b.2.1[i].2.2.1, b.2.1[i].2.2.2.1, b.2.1[i].2.2.2.2)].length) * 64 ≤ lim) = true := decide_eq_true (by simp only [List.length_cons, List.length_nil]; omega)
    rw [hg, cond_true]
  · unfold impl_copyBook_0r
    rw [dnlt]; rfl
  · refine (lp_appK (l := b.2.2.2.1) (fun x => some (b.1, b.2.1, b.2.2.1, x, b.2.2.2.2)) (fun g i out hi ho => ?_) (fun g out => ?_) (by omega)).trans rfl
    · have hp : smW b.2.2.2.1[i].1 := hb.2.2.2.2 _ (List.getElem_mem hi)
      unfold impl_copyBook_2r
      simp only [dlt hi, dge, gAt hi, cond_true, wrS (show i ≤ 1000000000000000000 by omega), ob_eq (implCopyWant (N := N) hp)]
      have hg : decide ((out.length + [(b.2.2.2.1[i].1, b.2.2.2.1[i].2)].length) * 120 ≤ lim) = true := decide_eq_true (by simp only [List.length_cons, List.length_nil]; omega)
      rw [hg, cond_true]
    · unfold impl_copyBook_2r
      rw [dnlt]; rfl
end Go.MC

/- How many names two lists have together. -/
set_option linter.unusedVariables false
set_option linter.unusedSimpArgs false
namespace Go.MC
open Go.MC.F

theorem implBoth {N : Nat} {a b : List Txt} (ha : a.length ≤ 1048576) (hb : b.length ≤ 1048576) : impl_both N a b = some (cmpct (srt (a ++ b))) := by
  have hlim := lim_eq
  have h1 : decide ((a.length + b.length) * 16 ≤ lim) = true := decide_eq_true (by omega)
  unfold impl_both
  rw [ob_eq (cloneS ha), h1]
  rfl

def unionN (a b : List Txt) : Nat := a.length + (b.filter fun x => !a.contains x).length

theorem l3Union {N : Nat} (hN : lim < N) {a b : List Txt} (ha : a.length ≤ 1048576) (hb : b.length ≤ 1048576) : spec_l3Union N a b = some (unionN a b : Int) := by
  have hlim := lim_eq
  unfold spec_l3Union spec_l3Unionb
  have := lp_walk b (fun (g : Int → Int → Option Int) i (st : Int) => g st (i : Int)) (fun _ _ => none) (spec_l3Union_0r N a b) (fun _ st x => .inl (bif a.contains x then st else st + 1)) (fun st => some st) (fun i st => 0 ≤ st ∧ st ≤ 1048576 + i)
    (fun g i st h hi => ⟨by
      unfold spec_l3Union_0r
      simp only [dlt h, dge, gAt h, cond_true, wrS (show i ≤ 1000000000000000000 by omega)]
      rw [ob_eq (l1Has hN (show a.length ≤ lim by omega) _), wr (by omega) (by omega)]
      cases a.contains b[i] <;> rfl, fun st' hs => by
      cases hs
      cases a.contains b[i]
      · exact ⟨by simp only [cond_false]; omega, by simp only [cond_false]; omega⟩
      · exact ⟨by simp only [cond_true]; omega, by simp only [cond_true]; omega⟩⟩) (fun g st _ => by
      unfold spec_l3Union_0r
      rw [dnlt]; rfl) N (by omega) (a.length : Int) ⟨by omega, by omega⟩
  refine this.trans ?_
  have : ∀ (l : List Txt) i (st : Int), outW (fun st => some st) (walkL (fun _ (st : Int) x => Sum.inl (bif a.contains x then st else st + 1)) i l st) = some (st + ((l.filter fun x => !a.contains x).length : Int)) := by
    intro l
    induction l with
    | nil => intro i st; simp [walkL, outW]
    | cons x xs ih =>
      intro i st
      simp only [walkL, List.filter_cons]
      cases a.contains x with
      | true => simpa using ih (i + 1) st
      | false =>
        simp only [cond_false, Bool.not_false, if_true, List.length_cons]
        rw [ih]
        congr 1
        omega
  rw [this, unionN]
  congr 1

/-! Sorted, compacted: each once -/
theorem comp_facts (d : Array (List UInt8)) (hs : ∀ i j, i ≤ j → j < d.size → d[i]! ≤ d[j]!) : ∀ m, m ≤ d.size → (Lib.compactUpTo d m).Nodup ∧ ∀ x, x ∈ Lib.compactUpTo d m ↔ ∃ j, j < m ∧ d[j]! = x
  | 0, _ => by simp [Lib.compactUpTo]
  | m + 1, hm => by
    obtain ⟨h1, h2⟩ := comp_facts d hs m (by omega)
    rw [Lib.compactUpTo_succ]
    cases hk : Lib.keeps d m with
    | true =>
      simp only [if_true]
      have hk' : m = 0 ∨ d[m]! ≠ d[m - 1]! := by simpa [Lib.keeps] using hk
      have hn : d[m]! ∉ Lib.compactUpTo d m := by
        intro hmem
        obtain ⟨j, hj, e⟩ := (h2 _).1 hmem
        rcases hk' with h0 | hne
        · omega
        · refine hne (List.le_antisymm ?_ (hs (m - 1) m (by omega) (by omega)))
          rw [← e]
          exact hs j (m - 1) (by omega) (by omega)
      refine ⟨List.nodup_append.2 ⟨h1, by simp, fun x hx y hy => ?_⟩, fun x => ?_⟩
      · simp at hy
        subst hy
        rintro rfl
        exact hn hx
      · rw [List.mem_append, h2, List.mem_singleton]
        constructor
        · rintro (⟨j, hj, e⟩ | rfl)
          · exact ⟨j, by omega, e⟩
          · exact ⟨m, by omega, rfl⟩
        · rintro ⟨j, hj, e⟩
          by_cases hjm : j = m
          · subst hjm; exact .inr e.symm
          · exact .inl ⟨j, by omega, e⟩
    | false =>
      have hk' : ¬ (m = 0 ∨ d[m]! ≠ d[m - 1]!) := by simpa [Lib.keeps] using hk
      have hm0 : m ≠ 0 := fun h => hk' (.inl h)
      have he : d[m]! = d[m - 1]! := by
        by_cases h : d[m]! = d[m - 1]!
        · exact h
        · exact absurd (.inr h) hk'
      simp only [Bool.false_eq_true, if_false, List.append_nil]
      refine ⟨h1, fun x => ?_⟩
      rw [h2]
      constructor
      · rintro ⟨j, hj, e⟩
        exact ⟨j, by omega, e⟩
      · rintro ⟨j, hj, e⟩
        by_cases hjm : j = m
        · subst hjm
          exact ⟨j - 1, by omega, by rw [← he]; exact e⟩
        · exact ⟨j, by omega, e⟩

theorem srt_sorted (xs : List (List UInt8)) : (srt xs).Pairwise fun a b => a ≤ b := by
  have := List.pairwise_mergeSort (le := fun (x y : List UInt8) => decide (x ≤ y)) (fun a b c h1 h2 => by simpa using List.le_trans (by simpa using h1) (by simpa using h2)) (fun a b => by simpa using List.le_total a b) xs
  exact this.imp fun h => by simpa using h

theorem comp_srt (xs : List (List UInt8)) : (cmpct (srt xs)).Nodup ∧ ∀ x, x ∈ cmpct (srt xs) ↔ x ∈ xs := by
  have hs := srt_sorted xs
  obtain ⟨h1, h2⟩ := comp_facts (srt xs).toArray (fun i j hij hj => by
    have hj' : j < (srt xs).length := by simpa using hj
    have hi' : i < (srt xs).length := by omega
    rw [getElem!_pos _ i (by simpa using hi'), getElem!_pos _ j hj]
    simp only [List.getElem_toArray]
    rcases Nat.lt_or_ge i j with h | h
    · exact List.pairwise_iff_getElem.1 hs i j hi' hj' h
    · have : i = j := by omega
      subst this
      exact List.le_refl _) (srt xs).length (by simp)
  refine ⟨h1, fun x => ?_⟩
  have h3 : x ∈ cmpct (srt xs) ↔ ∃ j, j < (srt xs).length ∧ (srt xs).toArray[j]! = x := h2 x
  rw [h3, ← srt_mem (xs := xs), List.mem_iff_getElem]
  constructor
  · rintro ⟨j, hj, e⟩
    refine ⟨j, hj, ?_⟩
    rw [getElem!_pos _ j (by simpa using hj)] at e
    simpa using e
  · rintro ⟨j, hj, e⟩
    refine ⟨j, hj, ?_⟩
    rw [getElem!_pos _ j (by simpa using hj)]
    simpa using e

theorem union_eq {a b : List Txt} (ha : a.Nodup) (hb : b.Nodup) : (cmpct (srt (a ++ b))).length = unionN a b := by
  obtain ⟨h1, h2⟩ := comp_srt (a ++ b)
  have h3 : (a ++ b.filter fun x => !a.contains x).Nodup := by
    refine List.nodup_append.2 ⟨ha, hb.filter _, fun x hx y hy => ?_⟩
    rintro rfl
    have := (List.mem_filter.1 hy).2
    simp [hx] at this
  have := (List.perm_ext_iff_of_nodup h1 h3).2 fun x => by
    rw [h2, List.mem_append, List.mem_append, List.mem_filter]
    constructor
    · rintro (h | h)
      · exact .inl h
      · by_cases hx : x ∈ a
        · exact .inl hx
        · exact .inr ⟨h, by simp [hx]⟩
    · rintro (h | ⟨h, _⟩)
      · exact .inl h
      · exact .inr h
  rw [this.length_eq, List.length_append, unionN]

theorem less_trans : ∀ {a b c : Txt}, Op.bytesLess a b = true → Op.bytesLess b c = true → Op.bytesLess a c = true
  | [], [], c, h, _ => by cases h
  | [], _ :: _, [], _, h => by cases h
  | [], _ :: _, _ :: _, _, _ => rfl
  | _ :: _, [], _, h, _ => by cases h
  | _ :: _, _ :: _, [], _, h => by cases h
  | x :: a, y :: b, z :: c, h, h' => by
    simp only [Op.bytesLess, Bool.or_eq_true, Bool.and_eq_true, decide_eq_true_eq, beq_iff_eq] at h h' ⊢
    rcases h with h | ⟨rfl, h⟩
    · rcases h' with h' | ⟨rfl, h'⟩
      · exact .inl (UInt8.lt_trans h h')
      · exact .inl h
    · rcases h' with h' | ⟨rfl, h'⟩
      · exact .inl h'
      · exact .inr ⟨rfl, less_trans h h'⟩

theorem nms_nodup {l : List Txt} {n : Int} (h : nmsOk l n = true) : l.Nodup := by
  unfold nmsOk at h
  simp only [Bool.and_eq_true] at h
  have h2 := allI_iff.1 h.2
  have h3 : ∀ j, 0 < j → (hj : j < l.length) → Op.bytesLess (l[j - 1]'(by omega)) l[j] = true := by
    intro j h0 hj
    have := h2 j l[j] (by simp [hj])
    simp only [Nat.zero_add, Bool.and_eq_true, ascI, Bool.or_eq_true, beq_iff_eq] at this
    rcases this.2 with h | h
    · omega
    · rwa [List.getD_eq_getElem?_getD, List.getElem?_eq_getElem (by omega)] at h
  have h4 : ∀ (k i : Nat) (hj : i + k + 1 < l.length), Op.bytesLess (l[i]'(by omega)) l[i + k + 1] = true := by
    intro k
    induction k with
    | zero => intro i hj; exact h3 (i + 1) (by omega) hj
    | succ k ih =>
      intro i hj
      exact less_trans (ih i (by omega)) (h3 (i + (k + 1) + 1) (by omega) hj)
  refine List.pairwise_iff_getElem.2 fun i j hi hj hij e => ?_
  have := h4 (j - i - 1) i (by omega)
  simp only [show i + (j - i - 1) + 1 = j by omega] at this
  rw [e, less_irrefl] at this
  cases this

end Go.MC

/- Texts in order; a text put in its place; two lists of names together. -/
set_option linter.unusedVariables false
set_option linter.unusedSimpArgs false
namespace Go.MC
open Go.MC.F

theorem less_lt : ∀ {a b : Txt}, Op.bytesLess a b = true ↔ a < b
  | [], [] => by simp [Op.bytesLess]
  | [], _ :: _ => by simp [Op.bytesLess]
  | _ :: _, [] => by simp [Op.bytesLess]
  | x :: a, y :: b => by
    simp only [Op.bytesLess, Bool.or_eq_true, Bool.and_eq_true, decide_eq_true_eq, beq_iff_eq, List.cons_lt_cons_iff]
    rw [less_lt (a := a) (b := b)]
theorem less_tri : ∀ {a b : Txt}, Op.bytesLess a b = false → a ≠ b → Op.bytesLess b a = true
  | [], [], _, h => absurd rfl h
  | [], _ :: _, h, _ => by cases h
  | _ :: _, [], _, _ => rfl
  | x :: a, y :: b, h, hn => by
    simp only [Op.bytesLess, Bool.or_eq_false_iff, Bool.and_eq_false_iff, decide_eq_false_iff_not, beq_eq_false_iff_ne, Bool.or_eq_true, Bool.and_eq_true, decide_eq_true_eq, beq_iff_eq] at h ⊢
    by_cases hxy : x = y
    · subst hxy
      refine .inr ⟨rfl, less_tri ?_ fun e => hn (by rw [e])⟩
      rcases h.2 with h | h
      · exact absurd rfl h
      · exact h
    · refine .inl ?_
      rcases Nat.lt_or_gt_of_ne (fun e => hxy (UInt8.toNat_inj.1 e)) with h1 | h1
      · exact absurd (UInt8.lt_iff_toNat_lt.2 h1) h.1
      · exact UInt8.lt_iff_toNat_lt.2 h1
def Asc (l : List Txt) : Prop := l.Pairwise fun a b => Op.bytesLess a b = true
theorem nms_asc {l : List Txt} {n : Int} (h : nmsOk l n = true) : Asc l := by
  unfold nmsOk at h
  simp only [Bool.and_eq_true] at h
  have h2 := allI_iff.1 h.2
  have h3 : ∀ j, 0 < j → (hj : j < l.length) → Op.bytesLess (l[j - 1]'(by omega)) l[j] = true := by
    intro j h0 hj
    have := h2 j l[j] (by simp [hj])
    simp only [Nat.zero_add, Bool.and_eq_true, ascI, Bool.or_eq_true, beq_iff_eq] at this
    rcases this.2 with h | h
    · omega
    · rwa [List.getD_eq_getElem?_getD, List.getElem?_eq_getElem (by omega)] at h
  have h4 : ∀ (k i : Nat) (hj : i + k + 1 < l.length), Op.bytesLess (l[i]'(by omega)) l[i + k + 1] = true := by
    intro k
    induction k with
    | zero => intro i hj; exact h3 (i + 1) (by omega) hj
    | succ k ih =>
      intro i hj
      exact less_trans (ih i (by omega)) (h3 (i + (k + 1) + 1) (by omega) hj)
  refine List.pairwise_iff_getElem.2 fun i j hi hj hij => ?_
  have := h4 (j - i - 1) i (by omega)
  simpa only [show i + (j - i - 1) + 1 = j by omega] using this
theorem asc_ext : ∀ {a b : List Txt}, Asc a → Asc b → (∀ x, x ∈ a ↔ x ∈ b) → a = b
  | [], [], _, _, _ => rfl
  | [], y :: b, _, _, h => absurd ((h y).2 (by simp)) (by simp)
  | x :: a, [], _, _, h => absurd ((h x).1 (by simp)) (by simp)
  | x :: a, y :: b, ha, hb, h => by
    obtain ⟨ha1, ha2⟩ := List.pairwise_cons.1 ha
    obtain ⟨hb1, hb2⟩ := List.pairwise_cons.1 hb
    have e : x = y := by
      rcases List.mem_cons.1 ((h x).1 (by simp)) with h1 | h1
      · exact h1
      · rcases List.mem_cons.1 ((h y).2 (by simp)) with h2 | h2
        · exact h2.symm
        · have := less_trans (hb1 x h1) (ha1 y h2)
          rw [less_irrefl] at this
          cases this
    subst e
    have : a = b := asc_ext ha2 hb2 fun z => by
      constructor
      · intro hz
        rcases List.mem_cons.1 ((h z).1 (by simp [hz])) with h1 | h1
        · subst h1
          have := ha1 z hz
          rw [less_irrefl] at this
          cases this
        · exact h1
      · intro hz
        rcases List.mem_cons.1 ((h z).2 (by simp [hz])) with h1 | h1
        · subst h1
          have := hb1 z hz
          rw [less_irrefl] at this
          cases this
        · exact h1
    rw [this]

/-! Sorted and compacted: in order -/
theorem asc_comp (xs : List Txt) : Asc (cmpct (srt xs)) := by
  have hs := srt_sorted xs
  have hn := (comp_srt xs).1
  have hle : (cmpct (srt xs)).Pairwise fun a b => a ≤ b := by
    unfold cmpct Lib.compact Lib.compactUpTo
    refine List.pairwise_map.2 ?_
    have h1 : ((List.range (srt xs).length).filter (Lib.keeps (srt xs).toArray)).Pairwise (· < ·) := List.Pairwise.filter _ List.pairwise_lt_range
    refine List.Pairwise.imp_of_mem ?_ h1
    intro i j hi hj hij
    have hj' : j < (srt xs).length := by simpa using (List.mem_filter.1 hj).1
    have hi' : i < (srt xs).length := by omega
    rw [getElem!_pos _ i (by simpa using hi'), getElem!_pos _ j (by simpa using hj')]
    simp only [List.getElem_toArray]
    exact List.pairwise_iff_getElem.1 hs i j hi' hj' hij
  have h2 := List.Pairwise.and hle hn
  refine h2.imp fun {a b} h => ?_
  cases hb : Op.bytesLess a b with
  | true => rfl
  | false =>
    have := less_lt.1 (less_tri hb h.2)
    exact absurd this (by simpa using h.1)

/-! A text put in its place -/
def insT : List Txt → Txt → List Txt
  | [], x => [x]
  | y :: ys, x => bif Op.bytesLess y x then y :: insT ys x else bif y == x then y :: ys else x :: y :: ys
theorem insT_mem : ∀ {l : List Txt} {x y : Txt}, y ∈ insT l x ↔ y = x ∨ y ∈ l
  | [], x, y => by simp [insT]
  | z :: l, x, y => by
    simp only [insT]
    cases h : Op.bytesLess z x with
    | true =>
      simp only [cond_true, List.mem_cons, insT_mem (l := l)]
      constructor
      · rintro (h | h | h)
        · exact .inr (.inl h)
        · exact .inl h
        · exact .inr (.inr h)
      · rintro (h | h | h)
        · exact .inr (.inl h)
        · exact .inl h
        · exact .inr (.inr h)
    | false =>
      cases h2 : z == x with
      | true =>
        have := beq_iff_eq.1 h2
        subst this
        simp
      | false => simp
theorem insT_length : ∀ (l : List Txt) (x : Txt), (insT l x).length ≤ l.length + 1
  | [], x => by simp [insT]
  | z :: l, x => by
    simp only [insT]
    have := insT_length l x
    cases Op.bytesLess z x with
    | true => simp; omega
    | false => cases z == x <;> simp
theorem insT_asc : ∀ {l : List Txt} (x : Txt), Asc l → Asc (insT l x)
  | [], x, _ => by simp [insT, Asc]
  | z :: l, x, h => by
    obtain ⟨h1, h2⟩ := List.pairwise_cons.1 h
    simp only [insT]
    cases hz : Op.bytesLess z x with
    | true =>
      refine List.pairwise_cons.2 ⟨fun y hy => ?_, insT_asc x h2⟩
      rcases insT_mem.1 hy with rfl | hy
      · exact hz
      · exact h1 y hy
    | false =>
      cases h3 : z == x with
      | true => exact h
      | false =>
        have hxz := less_tri hz (beq_eq_false_iff_ne.1 h3)
        refine List.pairwise_cons.2 ⟨fun y hy => ?_, h⟩
        rcases List.mem_cons.1 hy with rfl | hy
        · exact hxz
        · exact less_trans hxz (h1 y hy)
def insA (l : List Txt) (xs : List Txt) : List Txt := xs.foldl insT l
theorem insA_mem : ∀ {xs l : List Txt} {y : Txt}, y ∈ insA l xs ↔ y ∈ l ∨ y ∈ xs
  | [], l, y => by simp [insA]
  | x :: xs, l, y => by
    show y ∈ insA (insT l x) xs ↔ _
    rw [insA_mem, insT_mem, List.mem_cons]
    constructor
    · rintro ((h | h) | h)
      · exact .inr (.inl h)
      · exact .inl h
      · exact .inr (.inr h)
    · rintro (h | h | h)
      · exact .inl (.inr h)
      · exact .inl (.inl h)
      · exact .inr h
theorem insA_asc : ∀ (xs : List Txt) {l : List Txt}, Asc l → Asc (insA l xs)
  | [], l, h => h
  | x :: xs, l, h => insA_asc xs (insT_asc x h)
theorem insA_length : ∀ (xs l : List Txt), (insA l xs).length ≤ l.length + xs.length
  | [], l => by simp [insA]
  | x :: xs, l => by
    have h1 := insA_length xs (insT l x)
    have h2 := insT_length l x
    show (insA (insT l x) xs).length ≤ _
    simp; omega
theorem insA_comp {l xs : List Txt} (h : Asc l) : cmpct (srt (l ++ xs)) = insA l xs :=
  asc_ext (asc_comp _) (insA_asc xs h) fun x => by rw [(comp_srt _).2, insA_mem, List.mem_append]

theorem l3Insert {N : Nat} (hN : lim < N) {l : List Txt} (hl : l.length ≤ 1048576) (x : Txt) : spec_l3Insert N l x = some (insT l x) := by
  have hlim := lim_eq
  unfold spec_l3Insert spec_l3Insertb
  have := lp_walk l (fun (g : Int → Option (List Txt)) i (_ : Unit) => g (i : Int)) (fun _ => none) (spec_l3Insert_0r N l x) (fun i _ y => bif Op.bytesLess y x then .inl () else .inr (some (bif y == x then l else l.take i ++ [x] ++ l.drop i))) (fun _ => some (l ++ [x])) (fun _ _ => True)
    (fun g i st h _ => ⟨by
      unfold spec_l3Insert_0r
      have e1 : decide ((i : Int) ≤ (l.length : Int)) = true := decide_eq_true (by omega)
      have e2 : decide ((0 + (List.drop (Int.toNat 0) (List.take (Int.toNat (i : Int)) l)).length) * 16 ≤ lim) = true := decide_eq_true (by simp; omega)
      have e3 : decide ((([] ++ List.drop (Int.toNat 0) (List.take (Int.toNat (i : Int)) l)).length + [x].length) * 16 ≤ lim) = true := decide_eq_true (by simp; omega)
      have e4 : decide ((l.length : Int) ≤ (l.length : Int)) = true := decide_eq_true (by omega)
      have e5 : decide ((([] ++ List.drop (Int.toNat 0) (List.take (Int.toNat (i : Int)) l) ++ [x]).length + (List.drop (Int.toNat (i : Int)) (List.take (l.length : Int).toNat l)).length) * 16 ≤ lim) = true := decide_eq_true (by simp; omega)
      simp only [dlt h, dge, gAt h, cond_true, wrS (show i ≤ 1000000000000000000 by omega), e1, e2, e3, e4, e5]
      have e6 : [] ++ List.drop (Int.toNat 0) (List.take (Int.toNat (i : Int)) l) ++ [x] ++ List.drop (Int.toNat (i : Int)) (List.take (l.length : Int).toNat l) = l.take i ++ [x] ++ l.drop i := by simp
      rw [e6]
      cases Op.bytesLess l[i] x <;> cases l[i] == x <;> rfl, fun _ _ => trivial⟩) (fun g _ _ => by
      unfold spec_l3Insert_0r
      have e1 : decide ((l.length : Int) ≤ (l.length : Int)) = true := decide_eq_true (by omega)
      have e2 : decide ((0 + (List.drop (Int.toNat 0) (List.take (Int.toNat (l.length : Int)) l)).length) * 16 ≤ lim) = true := decide_eq_true (by simp; omega)
      have e3 : decide ((([] ++ List.drop (Int.toNat 0) (List.take (Int.toNat (l.length : Int)) l)).length + [x].length) * 16 ≤ lim) = true := decide_eq_true (by simp; omega)
      have e5 : decide ((([] ++ List.drop (Int.toNat 0) (List.take (Int.toNat (l.length : Int)) l) ++ [x]).length + (List.drop (Int.toNat (l.length : Int)) (List.take (l.length : Int).toNat l)).length) * 16 ≤ lim) = true := decide_eq_true (by simp; omega)
      simp only [dnlt, dge, cond_true, cond_false, e1, e2, e3, e5]
      congr 1
      simp) N (by omega) () trivial
  refine this.trans ?_
  have : ∀ (suf pre : List Txt), l = pre ++ suf → outW (fun _ => some (l ++ [x])) (walkL (fun i (_ : Unit) y => (bif Op.bytesLess y x then Sum.inl () else Sum.inr (some (bif y == x then l else l.take i ++ [x] ++ l.drop i)) : Unit ⊕ Option (List Txt))) pre.length suf ()) = some (pre ++ insT suf x) := by
    intro suf
    induction suf with
    | nil => intro pre h; simp [walkL, outW, insT, h]
    | cons y ys ih =>
      intro pre h
      simp only [walkL, insT]
      cases hy : Op.bytesLess y x with
      | true =>
        have := ih (pre ++ [y]) (by simp [h])
        simp only [cond_true]
        rw [show pre.length + 1 = (pre ++ [y]).length by simp]
        rw [this]
        simp
      | false =>
        cases hyx : y == x with
        | true => simp [outW, h]
        | false => simp [outW, h]
  have := this l [] rfl
  simpa using this
end Go.MC

/- The part of a number: plain words. -/
set_option linter.unusedVariables false
set_option linter.unusedSimpArgs false
namespace Go.MC
open Go.MC.F

/-! Which part -/
def partAt (b : Book) (n : Int) : Int := idxB (fun p : Part => p.1.1 == n) 0 b.2.2.2.1
theorem l2Part {N : Nat} (hN : lim < N) {b : Book} (hb : smB b) (n : Int) : spec_l2Part N b n = some (partAt b n) := by
  have hlim := lim_eq
  have hlp := hb.2.2.2.1
  unfold spec_l2Part spec_l2Partb partAt
  refine lp_idx b.2.2.2.1 _ (fun p : Part => p.1.1 == n) (fun g i hi => ?_) (fun g => ?_) N (by omega)
  · unfold spec_l2Part_0r
    simp only [dlt hi, dge, gAt hi, cond_true, wrS (show i ≤ 1000000000000000000 by omega)]
  · unfold spec_l2Part_0r
    rw [dnlt]; rfl
theorem implPart {N : Nat} (hN : lim < N) {b : Book} (hb : smB b) (n : Int) : impl_ClaimBook_part N b n = some (partAt b n) := by
  have hlim := lim_eq
  have hlp := hb.2.2.2.1
  unfold impl_ClaimBook_part partAt
  have h : slices_IndexFunc_ClaimPart__impl_ClaimBook_part_c1 N b.2.2.2.1 n = some (idxB (fun p : Part => p.1.1 == n) 0 b.2.2.2.1, n) := by
    unfold slices_IndexFunc_ClaimPart__impl_ClaimBook_part_c1 slices_IndexFunc_ClaimPart__impl_ClaimBook_part_c1b
    refine lp_idxC b.2.2.2.1 _ (fun p : Part => p.1.1 == n) n (fun g i hi => ?_) (fun g => ?_) N (by omega)
    · unfold slices_IndexFunc_ClaimPart__impl_ClaimBook_part_c1_0r
      simp only [dlt hi, dge, gAt hi, cond_true, wrS (show i ≤ 1000000000000000000 by omega)]
      rw [ob_eq (show impl_ClaimBook_part_c1 N b.2.2.2.1[i] n = some (b.2.2.2.1[i].1.1 == n, n) from rfl)]
    · unfold slices_IndexFunc_ClaimPart__impl_ClaimBook_part_c1_0r
      rw [dnlt]; rfl
  rw [ob_eq h]

end Go.MC

/- ClaimCode: the document's and the program's tell the same. -/
set_option linter.unusedVariables false
set_option linter.unusedSimpArgs false
namespace Go.MC
open Go.MC.F

theorem lne (m n : Nat) : ((m : Int) != (n : Int)) = !(m == n) := by
  by_cases h : m = n
  · subst h; simp
  · have : ¬ ((m : Int) = (n : Int)) := by omega
    show (!((m : Int) == (n : Int))) = _
    rw [beq_eq_false_iff_ne.2 this, beq_eq_false_iff_ne.2 h]
theorem bneI (m n : Int) : (m != n) = !(m == n) := rfl
theorem lp_pos {F : Type} (z : F) (rd : F → F) {N : Nat} (h : 0 < N) : lp z rd N = rd (lp z rd (N - 1)) := by
  cases N with
  | zero => omega
  | succ n => rfl

/-! The same want -/
def alike (a b : List Txt) : Bool := (a.length == b.length) && allI (fun i x => x == b.getD i []) 0 a
def eqU (u v : Use) : Bool := u.1 == v.1 && (u.2.1 == v.2.1 && (u.2.2 == v.2.2 && true))
def alikeU (a b : List Use) : Bool := (a.length == b.length) && allI (fun i x => eqU x (b.getD i dUse)) 0 a
def sameW (a b : Want) : Bool := (a.1 == b.1) && ((a.2.1 == b.2.1) && (alike a.2.2.1 b.2.2.1 && (alikeU a.2.2.2.1 b.2.2.2.1 && (alike a.2.2.2.2.1 b.2.2.2.2.1 && alike a.2.2.2.2.2 b.2.2.2.2.2))))

theorem l1Alike {N : Nat} (hN : lim < N) {a b : List Txt} (ha : a.length ≤ 1048576) : spec_l1Alike N a b = some (alike a b) := by
  have hlim := lim_eq
  unfold spec_l1Alike spec_l1Alikeb alike
  rw [lne]
  cases h : a.length == b.length with
  | false => rfl
  | true =>
    have h' : a.length = b.length := by simpa using h
    refine (lp_allI a _ (fun i x => x == b.getD i []) (some false) (some true) (fun g i hi => ?_) (fun g => ?_) N (by omega)).trans ?_
    · unfold spec_l1Alike_0r
      simp only [dlt hi, dlt (show i < b.length by omega), dge, gAt hi, cond_true, wrS (show i ≤ 1000000000000000000 by omega)]
      simp only [gAt']
      cases a[i] == b.getD i [] <;> rfl
    · unfold spec_l1Alike_0r
      rw [dnlt]; rfl
    · cases allI (fun i x => x == b.getD i []) 0 a <;> rfl
theorem slicesEqual {N : Nat} (hN : lim < N) {a b : List Txt} (ha : a.length ≤ 1048576) : slices_Equal_string N a b = some (alike a b) := by
  have hlim := lim_eq
  unfold slices_Equal_string slices_Equal_stringb alike
  rw [lne]
  cases h : a.length == b.length with
  | false => rfl
  | true =>
    have h' : a.length = b.length := by simpa using h
    refine (lp_allI a _ (fun i x => x == b.getD i []) (some false) (some true) (fun g i hi => ?_) (fun g => ?_) N (by omega)).trans ?_
    · unfold slices_Equal_string_0r
      simp only [dlt hi, dlt (show i < b.length by omega), dge, gAt hi, cond_true, wrS (show i ≤ 1000000000000000000 by omega)]
      simp only [gAt']
      cases a[i] == b.getD i [] <;> rfl
    · unfold slices_Equal_string_0r
      rw [dnlt]; rfl
    · cases allI (fun i x => x == b.getD i []) 0 a <;> rfl
theorem slicesEqualU {N : Nat} (hN : lim < N) {a b : List Use} (ha : a.length ≤ 1048576) : slices_Equal_ClaimUse N a b = some (alikeU a b) := by
  have hlim := lim_eq
  unfold slices_Equal_ClaimUse slices_Equal_ClaimUseb alikeU
  rw [lne]
  cases h : a.length == b.length with
  | false => rfl
  | true =>
    have h' : a.length = b.length := by simpa using h
    refine (lp_allI a _ (fun i x => eqU x (b.getD i dUse)) (some false) (some true) (fun g i hi => ?_) (fun g => ?_) N (by omega)).trans ?_
    · unfold slices_Equal_ClaimUse_0r
      simp only [dlt hi, dlt (show i < b.length by omega), dge, gAt hi, cond_true, wrS (show i ≤ 1000000000000000000 by omega)]
      simp only [gAt']
      show (bif !(eqU a[i] (b.getD i dUse)) then some false else g ((i + 1 : Nat) : Int)) = _
      cases eqU a[i] (b.getD i dUse) <;> rfl
    · unfold slices_Equal_ClaimUse_0r
      rw [dnlt]; rfl
    · cases allI (fun i x => eqU x (b.getD i dUse)) 0 a <;> rfl

theorem l1Same {N : Nat} (hN : lim < N) {a b : Want} (ha : smW a) : spec_l1Same N a b = some (sameW a b) := by
  have hlim := lim_eq
  have h1 := ha.2.1.1
  unfold spec_l1Same spec_l1Sameb sameW alikeU
  rw [bneI, bneI, lne]
  simp only [ob_eq (l1Alike hN (b := b.2.2.1) ha.1.1), ob_eq (l1Alike hN (b := b.2.2.2.2.1) ha.2.2.1.1), ob_eq (l1Alike hN (b := b.2.2.2.2.2) ha.2.2.2.1)]
  cases h : a.2.2.2.1.length == b.2.2.2.1.length with
  | false =>
    cases a.1 == b.1 <;> cases a.2.1 == b.2.1 <;> cases alike a.2.2.1 b.2.2.1 <;> rfl
  | true =>
    have h' : a.2.2.2.1.length = b.2.2.2.1.length := by simpa using h
    have k : spec_l1Same_0 N a b N 0 = some (allI (fun i x => eqU x (b.2.2.2.1.getD i dUse)) 0 a.2.2.2.1) := by
      refine (lp_allI a.2.2.2.1 _ (fun i x => eqU x (b.2.2.2.1.getD i dUse)) (some false) (some true) (fun g i hi => ?_) (fun g => ?_) N (by omega)).trans ?_
      · unfold spec_l1Same_0r
        simp only [dlt hi, dlt (show i < b.2.2.2.1.length by omega), dge, gAt hi, cond_true, wrS (show i ≤ 1000000000000000000 by omega)]
        simp only [gAt']
        show (bif !(eqU a.2.2.2.1[i] (b.2.2.2.1.getD i dUse)) then some false else g ((i + 1 : Nat) : Int)) = _
        cases eqU a.2.2.2.1[i] (b.2.2.2.1.getD i dUse) <;> rfl
      · unfold spec_l1Same_0r
        rw [dnlt]; rfl
      · cases allI (fun i x => eqU x (b.2.2.2.1.getD i dUse)) 0 a.2.2.2.1 <;> rfl
    rw [k]
    cases a.1 == b.1 <;> cases a.2.1 == b.2.1 <;> cases alike a.2.2.1 b.2.2.1 <;> cases alike a.2.2.2.2.1 b.2.2.2.2.1 <;> cases alike a.2.2.2.2.2 b.2.2.2.2.2 <;> cases allI (fun i x => eqU x (b.2.2.2.1.getD i dUse)) 0 a.2.2.2.1 <;> rfl
theorem implSame {N : Nat} (hN : lim < N) {a b : Want} (ha : smW a) : impl_same N a b = some (sameW a b) := by
  unfold impl_same sameW
  simp only [ob_eq (slicesEqual hN (b := b.2.2.1) ha.1.1), ob_eq (slicesEqualU hN (b := b.2.2.2.1) ha.2.1.1), ob_eq (slicesEqual hN (b := b.2.2.2.2.1) ha.2.2.1.1), ob_eq (slicesEqual hN (b := b.2.2.2.2.2) ha.2.2.2.1)]
  cases a.1 == b.1 <;> cases a.2.1 == b.2.1 <;> cases alike a.2.2.1 b.2.2.1 <;> cases alikeU a.2.2.2.1 b.2.2.2.1 <;> cases alike a.2.2.2.2.1 b.2.2.2.2.1 <;> rfl

/-! Sides do not matter -/
theorem any2_comm {α β : Type} (l : List α) (m : List β) (p : α → β → Bool) : (l.any fun x => m.any fun y => p x y) = m.any fun y => l.any fun x => p x y := by
  rw [Bool.eq_iff_iff]
  simp only [List.any_eq_true]
  constructor
  · rintro ⟨x, hx, y, hy, h⟩; exact ⟨y, hy, x, hx, h⟩
  · rintro ⟨y, hy, x, hx, h⟩; exact ⟨x, hx, y, hy, h⟩
theorem share_comm (a b : Want) : share a b = share b a := by
  unfold share
  rw [any2_comm]
  congr 1
  funext u
  congr 1
  funext v
  exact BEq.comm
theorem anyC_comm (l m : List Txt) : (l.any fun x => m.contains x) = m.any fun x => l.contains x := by
  simp only [List.contains_eq_any_beq]
  rw [any2_comm]
  congr 1
  funext u
  congr 1
  funext v
  exact BEq.comm
theorem cross_comm (a b : Want) : cross a b = cross b a := by
  unfold cross
  rw [anyC_comm a.2.2.2.2.1 b.2.2.2.2.1, anyC_comm a.2.2.2.2.1 b.2.2.2.2.2, anyC_comm a.2.2.2.2.2 b.2.2.2.2.1]
  cases (b.2.2.2.2.1.any fun x => a.2.2.2.2.1.contains x) <;> cases (b.2.2.2.2.2.any fun x => a.2.2.2.2.1.contains x) <;> cases (b.2.2.2.2.1.any fun x => a.2.2.2.2.2.contains x) <;> rfl
theorem clash_comm (b : Book) (x y : List Txt) : clash b x y = clash b y x := by
  unfold clash
  congr 1
  funext f
  cases x.contains f.1 <;> cases y.contains f.1 <;> cases x.contains f.2 <;> cases y.contains f.2 <;> rfl

theorem l2Clashes {N : Nat} (hN : lim < N) {b : Book} (hb : b.1.length ≤ 1048576) {x y : List Txt} (hx : x.length ≤ 1048576) (hy : y.length ≤ 1048576) : spec_l2Clashes N b x y = some (clash b x y) := by
  have hlim := lim_eq
  unfold spec_l2Clashes spec_l2Clashesb
  refine (lp_allI x _ (fun _ u => !(y.any fun v => isFoe b u v)) (some true) (some false) (fun g i hi => ?_) (fun g => ?_) N (by omega)).trans ?_
  · unfold spec_l2Clashes_0r
    simp only [dlt hi, dge, gAt hi, cond_true, wrS (show i ≤ 1000000000000000000 by omega)]
    rw [ob_eq (l2Clash hN hb _ hy)]
    cases y.any fun v => isFoe b x[i] v <;> rfl
  · unfold spec_l2Clashes_0r
    rw [dnlt]; rfl
  · rw [allI_all, not_any, clash_eq]
    cases x.any fun u => y.any fun v => isFoe b u v <;> rfl

/-! What is wrong with a use -/
def stuffU (b : Book) (w : Want) (u : Use) : Int :=
  bif u.2.1 == 2 then (bif clash b w.2.2.1 (spotAt b u.1).2.2.2.2 then 8 else bif decide ((unionN (spotAt b u.1).2.2.2.2 w.2.2.1 : Int) > 8) then 5 else 0)
  else bif (spotAt b u.1).2.2.2.2.all (fun x => w.2.2.1.contains x) then 0 else 8
def amountU (b : Book) (w : Want) (u : Use) : Int :=
  bif u.2.1 == 1 && decide ((spotAt b u.1).2.2.1 < u.2.2) then 9
  else bif u.2.1 == 2 && decide (IntKind.i64.wrap ((spotAt b u.1).2.2.2.1 + u.2.2) > (spotAt b u.1).2.1) then 10
  else bif w.2.1 == 2 && decide ((spotAt b u.1).2.2.2.1 > 0) then 11 else 0
def first (f : Use → Int) (l : List Use) : Int := ((l.find? fun u => f u != 0).map f).getD 0
theorem first_getD (f : Use → Int) (l : List Use) (z : Int) : ((l.find? fun u => f u != 0).map f).getD z = bif first f l != 0 then first f l else z := by
  unfold first
  cases h : l.find? fun u => f u != 0 with
  | none => rfl
  | some u =>
    have := List.find?_some h
    simp only [Option.map_some, Option.getD_some]
    have h2 : (f u != 0) = true := by simpa using this
    rw [h2]; rfl
def stuffs (b : Book) (w : Want) : Int := bif clash b w.2.2.1 w.2.2.1 then 8 else bif w.2.1 == 1 then first (stuffU b w) w.2.2.2.1 else 0
def amounts (b : Book) (w : Want) : Int := first (amountU b w) w.2.2.2.1

theorem l3Amounts {N : Nat} (hN : lim < N) {b : Book} {w : Want} (hb : smB b) (hw : smW w) (hk : knowsB b w = true) : spec_l3Amounts N b w = some (amounts b w) := by
  have hlim := lim_eq
  have h1 := hw.2.1.1
  unfold spec_l3Amounts spec_l3Amountsb amounts first
  refine lp_find w.2.2.2.1 _ (fun u => amountU b w u != 0) (amountU b w) 0 (fun g i hi => ?_) (fun g => ?_) N (by omega)
  · obtain ⟨h2, h3⟩ := at_of_knows hk hi
    unfold spec_l3Amounts_0r
    simp only [dlt hi, dge, gAt hi, cond_true, wrS (show i ≤ 1000000000000000000 by omega)]
    rw [ob_eq (l2Spot hN hb.2.1.1 _), decide_eq_true h2, decide_eq_true h3]
    simp only [cond_true, show b.2.1.getD (atB b w.2.2.2.1[i].1).toNat dSpot = spotAt b w.2.2.2.1[i].1 from rfl]
    unfold amountU
    cases w.2.2.2.1[i].2.1 == 1 <;> cases decide ((spotAt b w.2.2.2.1[i].1).2.2.1 < w.2.2.2.1[i].2.2) <;> cases w.2.2.2.1[i].2.1 == 2 <;> cases decide (IntKind.i64.wrap ((spotAt b w.2.2.2.1[i].1).2.2.2.1 + w.2.2.2.1[i].2.2) > (spotAt b w.2.2.2.1[i].1).2.1) <;> cases w.2.1 == 2 <;> cases decide ((spotAt b w.2.2.2.1[i].1).2.2.2.1 > 0) <;> rfl
  · unfold spec_l3Amounts_0r
    rw [dnlt]; rfl
theorem implAmounts {N : Nat} (hN : lim < N) {b : Book} {w : Want} (hb : smB b) (hw : smW w) (hk : knowsB b w = true) (c : Bool) : impl_ClaimCode_3 N b (c, w) (w.2.2.2.1.length : Int) N 0 = some (amounts b w) := by
  have hlim := lim_eq
  have h1 := hw.2.1.1
  unfold impl_ClaimCode_3 amounts first
  refine lp_find w.2.2.2.1 _ (fun u => amountU b w u != 0) (amountU b w) 0 (fun g i hi => ?_) (fun g => ?_) N (by omega)
  · obtain ⟨h2, h3⟩ := at_of_knows hk hi
    unfold impl_ClaimCode_3r
    simp only [dlt hi, dge, gAt hi, cond_true, wrS (show i ≤ 1000000000000000000 by omega)]
    rw [ob_eq (implAt hN hb.2.1.1 _), decide_eq_true h2, decide_eq_true h3]
    simp only [cond_true, show b.2.1.getD (atB b w.2.2.2.1[i].1).toNat dSpot = spotAt b w.2.2.2.1[i].1 from rfl]
    unfold amountU
    cases w.2.2.2.1[i].2.1 == 1 <;> cases decide ((spotAt b w.2.2.2.1[i].1).2.2.1 < w.2.2.2.1[i].2.2) <;> cases w.2.2.2.1[i].2.1 == 2 <;> cases decide (IntKind.i64.wrap ((spotAt b w.2.2.2.1[i].1).2.2.2.1 + w.2.2.2.1[i].2.2) > (spotAt b w.2.2.2.1[i].1).2.1) <;> cases w.2.1 == 2 <;> cases decide ((spotAt b w.2.2.2.1[i].1).2.2.2.1 > 0) <;> rfl
  · unfold impl_ClaimCode_3r
    rw [dnlt]; rfl

theorem l3Stuffs {N : Nat} (hN : lim < N) {b : Book} {w : Want} (hb : smB b) (hw : smW w) (hk : knowsB b w = true) : spec_l3Stuffs N b w = some (stuffs b w) := by
  have hlim := lim_eq
  have h1 := hw.2.1.1
  unfold spec_l3Stuffs spec_l3Stuffsb stuffs
  rw [ob_eq (l2Clashes hN hb.1.1 hw.1.1 hw.1.1)]
  cases clash b w.2.2.1 w.2.2.1 with
  | true => rfl
  | false =>
    simp only [cond_false]
    cases hkind : w.2.1 == 1 with
    | false =>
      unfold spec_l3Stuffs_0
      rw [lp_pos _ _ (by omega)]
      unfold spec_l3Stuffs_0r
      rw [hkind]
      cases decide ((0 : Int) < (w.2.2.2.1.length : Int)) <;> rfl
    | true =>
      unfold first
      refine lp_find w.2.2.2.1 _ (fun u => stuffU b w u != 0) (stuffU b w) 0 (fun g i hi => ?_) (fun g => ?_) N (by omega)
      · obtain ⟨h2, h3⟩ := at_of_knows hk hi
        have hs := hb.2.1.2 _ (spotAt_mem h2 h3)
        unfold spec_l3Stuffs_0r
        rw [hkind]
        simp only [dlt hi, dge, gAt hi, cond_true, wrS (show i ≤ 1000000000000000000 by omega)]
        rw [ob_eq (l2Spot hN hb.2.1.1 _), decide_eq_true h2, decide_eq_true h3]
        simp only [cond_true, show b.2.1.getD (atB b w.2.2.2.1[i].1).toNat dSpot = spotAt b w.2.2.2.1[i].1 from rfl]
        simp only [ob_eq (l1All hN hs.2.1 hw.1.1), ob_eq (l2Clashes hN hb.1.1 hw.1.1 hs.2.1), ob_eq (l3Union hN hs.2.1 hw.1.1), bneI]
        unfold stuffU
        cases w.2.2.2.1[i].2.1 == 2 <;> cases (spotAt b w.2.2.2.1[i].1).2.2.2.2.all (fun x => w.2.2.1.contains x) <;> cases clash b w.2.2.1 (spotAt b w.2.2.2.1[i].1).2.2.2.2 <;> cases decide ((unionN (spotAt b w.2.2.2.1[i].1).2.2.2.2 w.2.2.1 : Int) > 8) <;> rfl
      · unfold spec_l3Stuffs_0r
        rw [dnlt]; rfl

theorem implStuffs {N : Nat} (hN : lim < N) {b : Book} {w : Want} (hb : smB b) (hw : smW w) (hk : knowsB b w = true) (c : Bool) (hd : ∀ s ∈ b.2.1, s.2.2.2.2.Nodup) (hdw : w.2.2.1.Nodup) :
    impl_ClaimCode_1 N b (c, w) (w.2.2.2.1.length : Int) N 0 = some (bif (bif w.2.1 == 1 then first (stuffU b w) w.2.2.2.1 else 0) != 0 then (bif w.2.1 == 1 then first (stuffU b w) w.2.2.2.1 else 0) else amounts b w) := by
  have hlim := lim_eq
  have h1 := hw.2.1.1
  unfold impl_ClaimCode_1
  cases hkind : w.2.1 == 1 with
  | false =>
    rw [lp_pos _ _ (by omega)]
    unfold impl_ClaimCode_1r
    have e0 : Int.toNat (0 : Int) = 0 := rfl
    simp only [bneI, hkind, Bool.not_false, cond_true, implAmounts hN hb hw hk c]
    cases w.2.2.2.1 with
    | nil => rfl
    | cons u us =>
      rw [show decide ((0 : Int) < ((u :: us).length : Int)) = true from decide_eq_true (by simp only [List.length_cons]; omega)]
      rfl
  | true =>
    simp only [cond_true]
    rw [← first_getD]
    refine lp_find w.2.2.2.1 _ (fun u => stuffU b w u != 0) (stuffU b w) (amounts b w) (fun g i hi => ?_) (fun g => ?_) N (by omega)
    · obtain ⟨h2, h3⟩ := at_of_knows hk hi
      have hs := hb.2.1.2 _ (spotAt_mem h2 h3)
      unfold impl_ClaimCode_1r
      simp only [bneI, hkind, Bool.not_true, cond_false, dlt hi, dge, gAt hi, cond_true, wrS (show i ≤ 1000000000000000000 by omega)]
      rw [ob_eq (implAt hN hb.2.1.1 _), decide_eq_true h2, decide_eq_true h3]
      simp only [cond_true, show b.2.1.getD (atB b w.2.2.2.1[i].1).toNat dSpot = spotAt b w.2.2.2.1[i].1 from rfl]
      simp only [ob_eq (implWithin hN hs.2.1 hw.1.1), ob_eq (implFoes hN hb.1.1 hs.2.1 hw.1.1), ob_eq (implBoth (N := N) hs.2.1 hw.1.1), union_eq (hd _ (spotAt_mem h2 h3)) hdw]
      rw [clash_comm b (spotAt b w.2.2.2.1[i].1).2.2.2.2 w.2.2.1]
      unfold stuffU
      cases w.2.2.2.1[i].2.1 == 2 <;> cases (spotAt b w.2.2.2.1[i].1).2.2.2.2.all (fun x => w.2.2.1.contains x) <;> cases clash b w.2.2.1 (spotAt b w.2.2.2.1[i].1).2.2.2.2 <;> cases decide ((unionN (spotAt b w.2.2.2.1[i].1).2.2.2.2 w.2.2.1 : Int) > 8) <;> rfl
    · unfold impl_ClaimCode_1r
      rw [dnlt]
      exact implAmounts hN hb hw hk c

end Go.MC

/- ClaimCode, whole. -/
set_option linter.unusedVariables false
set_option linter.unusedSimpArgs false
namespace Go.MC
open Go.MC.F

/-- A search with a want caught. -/
theorem lp_idxW {α : Type} (l : List α) (rd : (Int → Int → Int → List Txt → List Use → List Txt → List Txt → Option (Int × Want)) → Int → Int → Int → List Txt → List Use → List Txt → List Txt → Option (Int × Want)) (p : α → Bool) (c : Want)
    (hstep : ∀ (g : Int → Int → Int → List Txt → List Use → List Txt → List Txt → Option (Int × Want)) (i : Nat) (h : i < l.length), rd g (i : Int) c.1 c.2.1 c.2.2.1 c.2.2.2.1 c.2.2.2.2.1 c.2.2.2.2.2 = bif p l[i] then some ((i : Int), c) else g ((i + 1 : Nat) : Int) c.1 c.2.1 c.2.2.1 c.2.2.2.1 c.2.2.2.2.1 c.2.2.2.2.2)
    (hend : ∀ (g : Int → Int → Int → List Txt → List Use → List Txt → List Txt → Option (Int × Want)), rd g (l.length : Int) c.1 c.2.1 c.2.2.1 c.2.2.2.1 c.2.2.2.2.1 c.2.2.2.2.2 = some (-1, c)) (N : Nat) (hN : l.length < N) :
    lp (fun _ _ _ _ _ _ _ => none) rd N 0 c.1 c.2.1 c.2.2.1 c.2.2.2.1 c.2.2.2.2.1 c.2.2.2.2.2 = some (idxB p 0 l, c) := by
  have := lp_walk l (fun (g : Int → Int → Int → List Txt → List Use → List Txt → List Txt → Option (Int × Want)) i (d : Want) => g (i : Int) d.1 d.2.1 d.2.2.1 d.2.2.2.1 d.2.2.2.2.1 d.2.2.2.2.2) (fun _ _ _ _ _ _ _ => none) rd (fun i d x => bif p x then .inr (some ((i : Int), d)) else .inl d) (fun d => some (-1, d)) (fun _ d => d = c)
    (fun g i st h hi => ⟨by
      subst hi
      rw [hstep g i h]
      cases p l[i] <;> rfl, fun st' hs => by
      subst hi
      cases hp : p l[i] with
      | true => rw [hp] at hs; cases hs
      | false => rw [hp] at hs; cases hs; rfl⟩) (fun g d hd => by subst hd; exact hend g) N hN c rfl
  refine this.trans ?_
  have : ∀ (l : List α) i, outW (fun d => some (-1, d)) (walkL (fun i (d : Want) x => bif p x then Sum.inr (some ((i : Int), d)) else Sum.inl d) i l c) = some (idxB p i l, c) := by
    intro l
    induction l with
    | nil => intro i; rfl
    | cons x xs ih =>
      intro i
      simp only [walkL, idxB]
      cases p x with
      | false => simpa using ih (i + 1)
      | true => rfl
  exact this l 0

theorem implShares {N : Nat} (hN : lim < N) {b : Book} {w : Want} (hb : smB b) (hw : smW w) : slices_ContainsFunc_ClaimPart__impl_ClaimCode_c1 N b.2.2.2.1 w = some (b.2.2.2.1.any fun p => share p.1 w, w) := by
  have hlim := lim_eq
  have hlp := hb.2.2.2.1
  unfold slices_ContainsFunc_ClaimPart__impl_ClaimCode_c1
  have h : slices_IndexFunc_ClaimPart__impl_ClaimCode_c1 N b.2.2.2.1 w = some (idxB (fun p : Part => share p.1 w) 0 b.2.2.2.1, w) := by
    unfold slices_IndexFunc_ClaimPart__impl_ClaimCode_c1 slices_IndexFunc_ClaimPart__impl_ClaimCode_c1b
    refine lp_idxW b.2.2.2.1 _ (fun p : Part => share p.1 w) w (fun g i hi => ?_) (fun g => ?_) N (by omega)
    · unfold slices_IndexFunc_ClaimPart__impl_ClaimCode_c1_0r
      simp only [dlt hi, dge, gAt hi, cond_true, wrS (show i ≤ 1000000000000000000 by omega)]
      have h1 : impl_ClaimCode_c1 N b.2.2.2.1[i] (w.1, w.2.1, w.2.2.1, w.2.2.2.1, w.2.2.2.2.1, w.2.2.2.2.2) = some (share b.2.2.2.1[i].1 w, w) := by
        show impl_ClaimCode_c1 N b.2.2.2.1[i] w = _
        unfold impl_ClaimCode_c1
        rw [ob_eq (implShare hN (hb.2.2.2.2 _ (List.getElem_mem hi)) hw)]
      rw [ob_eq h1]
    · unfold slices_IndexFunc_ClaimPart__impl_ClaimCode_c1_0r
      rw [dnlt]; rfl
  rw [ob_eq h, idxB_nonneg]
theorem implCrosses {N : Nat} (hN : lim < N) {b : Book} {w : Want} (hb : smB b) (hw : smW w) : slices_ContainsFunc_ClaimPart__impl_ClaimCode_c2 N b.2.2.2.1 w = some (b.2.2.2.1.any fun p => cross p.1 w, w) := by
  have hlim := lim_eq
  have hlp := hb.2.2.2.1
  unfold slices_ContainsFunc_ClaimPart__impl_ClaimCode_c2
  have h : slices_IndexFunc_ClaimPart__impl_ClaimCode_c2 N b.2.2.2.1 w = some (idxB (fun p : Part => cross p.1 w) 0 b.2.2.2.1, w) := by
    unfold slices_IndexFunc_ClaimPart__impl_ClaimCode_c2 slices_IndexFunc_ClaimPart__impl_ClaimCode_c2b
    refine lp_idxW b.2.2.2.1 _ (fun p : Part => cross p.1 w) w (fun g i hi => ?_) (fun g => ?_) N (by omega)
    · unfold slices_IndexFunc_ClaimPart__impl_ClaimCode_c2_0r
      simp only [dlt hi, dge, gAt hi, cond_true, wrS (show i ≤ 1000000000000000000 by omega)]
      have h1 : impl_ClaimCode_c2 N b.2.2.2.1[i] (w.1, w.2.1, w.2.2.1, w.2.2.2.1, w.2.2.2.2.1, w.2.2.2.2.2) = some (cross b.2.2.2.1[i].1 w, w) := by
        show impl_ClaimCode_c2 N b.2.2.2.1[i] w = _
        unfold impl_ClaimCode_c2
        rw [ob_eq (implCross hN (hb.2.2.2.2 _ (List.getElem_mem hi)) hw)]
      rw [ob_eq h1]
    · unfold slices_IndexFunc_ClaimPart__impl_ClaimCode_c2_0r
      rw [dnlt]; rfl
  rw [ob_eq h, idxB_nonneg]

def partG (b : Book) (n : Int) : Part := b.2.2.2.1.getD (partAt b n).toNat dPart
/-- What granting would answer. -/
def codeB (b : Book) (w : Want) : Int :=
  bif !bookOk b then 1 else bif !wantOk w then 2 else bif !knowsB b w then 2 else
  bif decide (partAt b w.1 ≥ 0) then (bif sameW (partG b w.1).1 w then 0 else 3) else
  bif decide (w.1 ≤ b.2.2.2.2) then 4 else bif decide ((b.2.2.2.1.length : Int) ≥ 6) then 5 else
  bif b.2.2.2.1.any (fun p => share p.1 w) then 6 else bif b.2.2.2.1.any (fun p => cross p.1 w) then 7 else
  bif stuffs b w != 0 then stuffs b w else amounts b w

theorem part_lt {b : Book} {n : Int} (h : 0 ≤ partAt b n) : partAt b n < b.2.2.2.1.length := by
  have := idxB_lt (fun p : Part => p.1.1 == n) b.2.2.2.1 0 h
  unfold partAt
  omega
theorem partG_mem {b : Book} {n : Int} (h : 0 ≤ partAt b n) : partG b n ∈ b.2.2.2.1 := by
  have := part_lt h
  exact getD_mem (by omega) _

theorem specCode {N : Nat} (hN : lim < N) {b : Book} {w : Want} (hb : smB b) (hw : smW w) : spec_ClaimCode N b w = some (codeB b w) := by
  have hlim := lim_eq
  have hlp := hb.2.2.2.1
  unfold spec_ClaimCode spec_ClaimCodeb codeB
  rw [ob_eq (specBookOk hN hb)]
  cases hbk : bookOk b with
  | false => rfl
  | true =>
    simp only [Bool.not_true, cond_false]
    rw [ob_eq (specWantOk hN hw)]
    cases wantOk w with
    | false => rfl
    | true =>
      simp only [Bool.not_true, cond_false]
      rw [ob_eq (l2Knows hN hb hw)]
      cases hk : knowsB b w with
      | false => rfl
      | true =>
        simp only [Bool.not_true, cond_false]
        rw [ob_eq (l2Part hN hb w.1)]
        cases hp : decide (partAt b w.1 ≥ 0) with
        | true =>
          have hp' : 0 ≤ partAt b w.1 := of_decide_eq_true hp
          rw [show decide (partAt b w.1 < (b.2.2.2.1.length : Int)) = true from decide_eq_true (part_lt hp')]
          simp only [cond_true]
          rw [ob_eq (show spec_l1Same N (b.2.2.2.1.getD (partAt b w.1).toNat dPart).1 w = _ from l1Same hN (hb.2.2.2.2 _ (partG_mem hp')))]
          show (bif sameW (partG b w.1).1 w then some 0 else some 3) = _
          cases sameW (partG b w.1).1 w <;> rfl
        | false =>
          simp only [cond_false]
          cases decide (w.1 ≤ b.2.2.2.2) with
          | true => rfl
          | false =>
            simp only [cond_false]
            cases decide ((b.2.2.2.1.length : Int) ≥ 6) with
            | true => rfl
            | false =>
              simp only [cond_false]
              have k2 : spec_ClaimCode_2 N b w N 0 = some (bif b.2.2.2.1.any (fun p => cross p.1 w) then 7 else bif stuffs b w != 0 then stuffs b w else amounts b w) := by
                refine (lp_allI b.2.2.2.1 _ (fun _ p => !cross p.1 w) (some 7) (some (bif stuffs b w != 0 then stuffs b w else amounts b w)) (fun g i hi => ?_) (fun g => ?_) N (by omega)).trans ?_
                · unfold spec_ClaimCode_2r
                  simp only [dlt hi, dge, gAt hi, cond_true, wrS (show i ≤ 1000000000000000000 by omega)]
                  rw [ob_eq (l2Crosses hN hw (hb.2.2.2.2 _ (List.getElem_mem hi))), cross_comm w]
                  cases cross b.2.2.2.1[i].1 w <;> rfl
                · unfold spec_ClaimCode_2r
                  rw [dnlt, cond_false, ob_eq (l3Stuffs hN hb hw hk), ob_eq (l3Amounts hN hb hw hk)]
                  cases stuffs b w != 0 <;> rfl
                · rw [allI_all, not_any]
                  cases b.2.2.2.1.any fun p => cross p.1 w <;> rfl
              refine (lp_allI b.2.2.2.1 _ (fun _ p => !share p.1 w) (some 6) (some (bif b.2.2.2.1.any (fun p => cross p.1 w) then 7 else bif stuffs b w != 0 then stuffs b w else amounts b w)) (fun g i hi => ?_) (fun g => ?_) N (by omega)).trans ?_
              · have hpi := hb.2.2.2.2 _ (List.getElem_mem hi)
                unfold spec_ClaimCode_0r
                simp only [dlt hi, dge, gAt hi, cond_true, wrS (show i ≤ 1000000000000000000 by omega)]
                rw [ob_eq (l2Uses hN hw), ob_eq (l2Uses hN hpi), ob_eq (l2Share hN hw hpi), share_comm w]
                cases share b.2.2.2.1[i].1 w <;> rfl
              · unfold spec_ClaimCode_0r
                rw [dnlt, cond_false]
                exact k2
              · rw [allI_all, not_any]
                cases b.2.2.2.1.any fun p => share p.1 w <;> rfl

theorem may_nodup {b : Book} (h : bookOk b = true) : ∀ s ∈ b.2.1, s.2.2.2.2.Nodup := by
  intro s hs
  simp only [bookOk, spotsOk, Bool.and_eq_true] at h
  obtain ⟨i, hi⟩ := List.getElem?_of_mem hs
  have := allI_iff.1 h.2.2.2.1.2 i s hi
  simp only [spotI, spotOk, Bool.and_eq_true] at this
  exact nms_nodup this.1.2.2.2.2.1
theorem stuff_nodup {w : Want} (h : wantOk w = true) : w.2.2.1.Nodup := by
  simp only [wantOk, Bool.and_eq_true] at h
  exact nms_nodup h.2.2.2.2.2.2.2.2.1
theorem parts_six {b : Book} (h : bookOk b = true) : ((b.2.2.2.1.length : Int) == 6) = decide ((b.2.2.2.1.length : Int) ≥ 6) := by
  simp only [bookOk, partsOk, Bool.and_eq_true] at h
  have h1 : ¬ ((b.2.2.2.1.length : Int) > 6) := by simpa using h.2.2.2.2.1
  by_cases h6 : (b.2.2.2.1.length : Int) = 6
  · rw [h6]; rfl
  · rw [beq_eq_false_iff_ne.2 h6, decide_eq_false (by omega)]

theorem implCode {N : Nat} (hN : lim < N) {b : Book} {w : Want} (hb : smB b) (hw : smW w) : impl_ClaimCode N b w = some (codeB b w) := by
  have hlim := lim_eq
  have hlp := hb.2.2.2.1
  unfold impl_ClaimCode impl_ClaimCodeb codeB
  rw [ob_eq (implBookOk hN hb)]
  cases hbk : bookOk b with
  | false => rfl
  | true =>
    simp only [Bool.not_true, cond_false]
    rw [ob_eq (implWantOk hN hw)]
    cases hwk : wantOk w with
    | false => rfl
    | true =>
      simp only [Bool.not_true, cond_false]
      rw [ob_eq (implKnows hN hb hw)]
      cases hk : knowsB b w with
      | false => rfl
      | true =>
        simp only [Bool.not_true, cond_false]
        rw [ob_eq (implPart hN hb w.1)]
        cases hp : decide (partAt b w.1 ≥ 0) with
        | true =>
          have hp' : 0 ≤ partAt b w.1 := of_decide_eq_true hp
          rw [show decide (partAt b w.1 < (b.2.2.2.1.length : Int)) = true from decide_eq_true (part_lt hp')]
          simp only [cond_true]
          rw [ob_eq (show impl_same N (b.2.2.2.1.getD (partAt b w.1).toNat dPart).1 w = _ from implSame hN (hb.2.2.2.2 _ (partG_mem hp')))]
          show (bif sameW (partG b w.1).1 w then some 0 else some 3) = _
          cases sameW (partG b w.1).1 w <;> rfl
        | false =>
          simp only [cond_false]
          cases decide (w.1 ≤ b.2.2.2.2) with
          | true => rfl
          | false =>
            simp only [cond_false]
            rw [parts_six hbk]
            cases decide ((b.2.2.2.1.length : Int) ≥ 6) with
            | true => rfl
            | false =>
              simp only [cond_false]
              rw [ob_eq (implShares hN hb hw)]
              cases b.2.2.2.1.any fun p => share p.1 w with
              | true => rfl
              | false =>
                simp only [cond_false]
                rw [ob_eq (implCrosses hN hb hw)]
                cases b.2.2.2.1.any fun p => cross p.1 w with
                | true => rfl
                | false =>
                  simp only [cond_false]
                  rw [ob_eq (implFoes hN hb.1.1 hw.1.1 hw.1.1)]
                  unfold stuffs
                  cases clash b w.2.2.1 w.2.2.1 with
                  | true => rfl
                  | false => exact implStuffs hN hb hw hk false (may_nodup hbk) (stuff_nodup hwk)

end Go.MC

/- The marks that are written into what is handed over: plain words. -/
set_option linter.unusedVariables false
set_option linter.unusedSimpArgs false
namespace Go.MC
open Go.MC.F

/-- Each element marked, and counted on. -/
def mkL {α : Type} (c : α → Nat) (m : α → Int → α) : List α → Int → List α
  | [], _ => []
  | x :: xs, k => m x k :: mkL c m xs (k + c x)
def sumC {α : Type} (c : α → Nat) : List α → Nat
  | [] => 0
  | x :: xs => c x + sumC c xs
theorem mkL_length {α : Type} (c : α → Nat) (m : α → Int → α) : ∀ (l : List α) (k : Int), (mkL c m l k).length = l.length
  | [], _ => rfl
  | x :: xs, k => by simp [mkL, mkL_length c m xs]
theorem sumC_le {α : Type} {c : α → Nat} {b : Nat} : ∀ {l : List α}, (∀ x ∈ l, c x ≤ b) → sumC c l ≤ l.length * b
  | [], _ => by simp [sumC]
  | x :: xs, h => by
    have h1 := h x (by simp)
    have h2 := sumC_le (c := c) (b := b) (l := xs) fun y hy => h y (by simp [hy])
    simp only [sumC, List.length_cons, Nat.add_mul, Nat.one_mul]
    omega

/-- A loop that marks. -/
theorem lp_mk {α : Type} (c : α → Nat) (m : α → Int → α) (P : α → Prop) (B : Int) {rd : (Int → Int → List α → Option (Int × List α)) → Int → Int → List α → Option (Int × List α)}
    (hstep : ∀ (g : Int → Int → List α → Option (Int × List α)) (i : Nat) (xs : List α) (k : Int) (h : i < xs.length), P xs[i] → 0 ≤ k → k + c xs[i] ≤ B → xs.length ≤ 1048576 → rd g k (i : Int) xs = g (k + c xs[i]) ((i + 1 : Nat) : Int) (xs.set i (m xs[i] k)))
    (hend : ∀ (g : Int → Int → List α → Option (Int × List α)) (xs : List α) (k : Int), rd g k (xs.length : Int) xs = some (k, xs)) {N : Nat} {l : List α} (hP : ∀ x ∈ l, P x) (hl : l.length ≤ 1048576) {k : Int} (hk : 0 ≤ k) (hB : k + sumC c l ≤ B) (hN : l.length < N) :
    lp (fun _ _ _ => none) rd N k 0 l = some (k + sumC c l, mkL c m l k) := by
  suffices H : ∀ (suf pre : List α) (n : Nat) (k : Int), suf.length < n → (∀ x ∈ suf, P x) → (pre ++ suf).length ≤ 1048576 → 0 ≤ k → k + sumC c suf ≤ B → lp (fun _ _ _ => none) rd n k (pre.length : Int) (pre ++ suf) = some (k + sumC c suf, pre ++ mkL c m suf k) by
    have := H l [] N k hN hP (by simpa using hl) hk hB
    simpa using this
  intro suf
  induction suf with
  | nil =>
    intro pre n k h1 h2 h3 h4 h5
    obtain ⟨n, rfl⟩ : ∃ j, n = j + 1 := ⟨n - 1, by simp at h1; omega⟩
    rw [List.append_nil]
    show rd _ k (pre.length : Int) pre = _
    rw [hend]
    simp [sumC, mkL]
  | cons x suf ih =>
    intro pre n k h1 h2 h3 h4 h5
    obtain ⟨n, rfl⟩ : ∃ j, n = j + 1 := ⟨n - 1, by omega⟩
    have hlt : pre.length < (pre ++ x :: suf).length := by simp
    have hx : (pre ++ x :: suf)[pre.length] = x := by simp
    simp only [sumC] at h5
    show rd _ k (pre.length : Int) (pre ++ x :: suf) = _
    rw [hstep _ pre.length _ k hlt (by rw [hx]; exact h2 x (by simp)) h4 (by rw [hx]; omega) h3]
    rw [hx]
    have hset : (pre ++ x :: suf).set pre.length (m x k) = (pre ++ [m x k]) ++ suf := by simp
    have := ih (pre ++ [m x k]) n (k + c x) (by simp at h1; omega) (fun y hy => h2 y (by simp [hy])) (by simp at h3 ⊢; omega) (by omega) (by omega)
    rw [hset]
    rw [show ((pre.length + 1 : Nat) : Int) = ((pre ++ [m x k]).length : Int) by simp]
    refine this.trans ?_
    simp only [sumC, mkL, List.append_assoc, List.singleton_append]
    rw [show k + (c x : Int) + (sumC c suf : Int) = k + ((c x + sumC c suf : Nat) : Int) by omega]

/-- A loop that looks at the marks. -/
theorem lp_hd {α : Type} (c : α → Nat) (m : α → Int → α) (P : α → Prop) (B : Int) {l : List α} {k : Int} {rd : (Int → Int → Option Int) → Int → Int → Option Int}
    (hstep : ∀ (g : Int → Int → Option Int) (i : Nat) (x : α) (k' : Int) (h : i < (mkL c m l k).length), P x → 0 ≤ k' → k' + c x ≤ B → (mkL c m l k)[i] = m x k' → rd g k' (i : Int) = g (k' + c x) ((i + 1 : Nat) : Int))
    (hend : ∀ (g : Int → Int → Option Int) (k' : Int), rd g k' (l.length : Int) = some k') {N : Nat} (hP : ∀ x ∈ l, P x) (hk : 0 ≤ k) (hB : k + sumC c l ≤ B) (hN : l.length < N) :
    lp (fun _ _ => none) rd N k 0 = some (k + sumC c l) := by
  suffices H : ∀ (suf : List α) (pre : List α) (n : Nat) (k' : Int), suf.length < n → (∀ x ∈ suf, P x) → 0 ≤ k' → k' + sumC c suf ≤ B → mkL c m l k = pre ++ mkL c m suf k' → pre.length + suf.length = l.length → lp (fun _ _ => none) rd n k' (pre.length : Int) = some (k' + sumC c suf) by
    have := H l [] N k hN hP hk hB rfl (by simp)
    simpa using this
  intro suf
  induction suf with
  | nil =>
    intro pre n k' h1 h2 h3 h4 h5 h6
    obtain ⟨n, rfl⟩ : ∃ j, n = j + 1 := ⟨n - 1, by simp at h1; omega⟩
    show rd _ k' (pre.length : Int) = _
    rw [show pre.length = l.length by simpa using h6, hend]
    simp [sumC]
  | cons x suf ih =>
    intro pre n k' h1 h2 h3 h4 h5 h6
    obtain ⟨n, rfl⟩ : ∃ j, n = j + 1 := ⟨n - 1, by omega⟩
    have hlt : pre.length < (mkL c m l k).length := by rw [h5]; simp [mkL]
    have hx : (mkL c m l k)[pre.length] = m x k' := by simp [h5, mkL]
    simp only [sumC] at h4
    show rd _ k' (pre.length : Int) = _
    rw [hstep _ pre.length x k' hlt (h2 x (by simp)) h3 (by omega) hx]
    have := ih (pre ++ [m x k']) n (k' + c x) (by simp at h1; omega) (fun y hy => h2 y (by simp [hy])) (by omega) (by omega) (by rw [h5]; simp [mkL]) (by simp at h6 ⊢; omega)
    rw [show ((pre.length + 1 : Nat) : Int) = ((pre ++ [m x k']).length : Int) by simp]
    refine this.trans ?_
    simp only [sumC]
    rw [show k' + (c x : Int) + (sumC c suf : Int) = k' + ((c x + sumC c suf : Nat) : Int) by omega]

/-- As far as it is counted. -/
def mB : Int := 100000000000000
theorem mB_eq : mB = 100000000000000 := rfl

/-! The text of a mark -/
theorem markText_tot {N : Nat} (hN : lim < N) {k : Int} (h0 : 0 ≤ k) (h1 : k ≤ mB) : ∃ t, laws_markText N k = some t := by
  have hlim := lim_eq
  have hm := mB_eq
  unfold laws_markText laws_markTextb
  cases decide (k ≤ 0) with
  | true => exact ⟨_, rfl⟩
  | false =>
    suffices H : ∀ (n : Nat) (k : Int) (out : Txt), 0 ≤ k → k < n → (out.length : Int) + k ≤ 110000000000000 → ∃ t, lp (fun _ _ => none) (fun next => laws_markText_0r N next) n k out = some t by
      exact H N k [] h0 (by omega) (by simp; omega)
    intro n
    induction n with
    | zero => intro k out h2 h3; omega
    | succ n ih =>
      intro k out h2 h3 h4
      show ∃ t, laws_markText_0r N _ k out = some t
      unfold laws_markText_0r
      by_cases hk : k > 0
      · rw [decide_eq_true hk, cond_true]
        have hg : decide ((List.map byteOf [IntKind.u8.wrap (IntKind.i64.wrap (48 + Int.tmod k 10))]).length + List.length out ≤ lim) = true := decide_eq_true (by simp; omega)
        rw [hg, cond_true]
        have hd : Int.tdiv k 10 = k / 10 := Int.tdiv_eq_ediv_of_nonneg h2
        rw [hd, wr (by omega) (by omega)]
        exact ih (k / 10) _ (by omega) (by omega) (by simp; omega)
      · rw [decide_eq_false hk, cond_false]
        have hg : ([109] : List UInt8).length + List.length out ≤ lim := by simp; omega
        refine ⟨[109] ++ out, ?_⟩
        have hg2 := decide_eq_true hg
        generalize hd : decide (([109] : List UInt8).length + List.length out ≤ lim) = d at hg2
        subst hg2
        rfl
def mkT (N : Nat) (k : Int) : Txt := (laws_markText N k).getD []
theorem markText {N : Nat} (hN : lim < N) {k : Int} (h0 : 0 ≤ k) (h1 : k ≤ mB) : laws_markText N k = some (mkT N k) := by
  obtain ⟨t, h⟩ := markText_tot hN h0 h1
  rw [mkT, h]; rfl
theorem sAt {α : Type} {l : List α} {i : Nat} (x : α) : l.set (Int.toNat (i : Int)) x = l.set i x := by rw [Int.toNat_natCast]
theorem gS' {α : Type} {l : List α} {i : Nat} {x : α} (h : i < l.length) (d : α) : (l.set i x).getD i d = x := by
  rw [List.getD_eq_getElem?_getD, List.getElem?_set_self h]; rfl
theorem sS' {α : Type} {l : List α} {i : Nat} {x y : α} : (l.set i x).set i y = l.set i y := List.set_set ..

/-! Texts, numbers -/
def mkTs (N : Nat) (l : List Txt) (k : Int) : List Txt := mkL (fun _ => 1) (fun _ k => mkT N k) l k
theorem sum1 {α : Type} : ∀ l : List α, sumC (fun _ => 1) l = l.length
  | [] => rfl
  | x :: xs => by simp [sumC, sum1 xs]; omega
theorem wr1 {k : Int} (h0 : 0 ≤ k) (h1 : k ≤ mB + 10) : IntKind.i64.wrap (k + 1) = k + 1 := by
  have := mB_eq
  exact wr (by omega) (by omega)
theorem markStringS {N : Nat} (hN : lim < N) {l : List Txt} (hl : l.length ≤ 1048576) {k : Int} (h0 : 0 ≤ k) (h1 : k + l.length ≤ mB) : laws_markStringS N l k = some (k + l.length, mkTs N l k) := by
  have hlim := lim_eq
  have hm := mB_eq
  unfold laws_markStringS laws_markStringSb
  have := lp_mk (fun _ : Txt => 1) (fun _ k => mkT N k) (fun _ => True) mB (rd := fun next => laws_markStringS_0r N next) (fun g i xs k h _ hk hB hxl => ?_) (fun g xs k => ?_) (N := N) (l := l) (fun _ _ => trivial) hl h0 (by rw [sum1]; exact h1) (by omega)
  · rw [sum1] at this
    exact this
  · unfold laws_markStringS_0r
    simp only [dlt h, dge, cond_true, wrS (show i ≤ 1000000000000000000 by omega), sAt]
    rw [ob_eq (markText hN hk (by omega)), wr1 hk (by omega)]
    rfl
  · unfold laws_markStringS_0r
    rw [dnlt]; rfl

/-! Foes -/
def mkF (N : Nat) (l : List Foe) (k : Int) : List Foe := mkL (fun _ => 2) (fun _ k => (mkT N k, mkT N (k + 1))) l k
theorem sum2 {α : Type} (n : Nat) : ∀ l : List α, sumC (fun _ => n) l = l.length * n
  | [] => by simp [sumC]
  | x :: xs => by simp [sumC, sum2 n xs, Nat.add_mul]; omega
theorem markClaimFoeS {N : Nat} (hN : lim < N) {l : List Foe} (hl : l.length ≤ 1048576) {k : Int} (h0 : 0 ≤ k) (h1 : k + l.length * 2 ≤ mB) : laws_markClaimFoeS N l k = some (k + ((l.length * 2 : Nat) : Int), mkF N l k) := by
  have hlim := lim_eq
  have hm := mB_eq
  unfold laws_markClaimFoeS laws_markClaimFoeSb
  have := lp_mk (fun _ : Foe => 2) (fun _ k => (mkT N k, mkT N (k + 1))) (fun _ => True) mB (rd := fun next => laws_markClaimFoeS_0r N next) (fun g i xs k h _ hk hB hxl => ?_) (fun g xs k => ?_) (N := N) (l := l) (fun _ _ => trivial) hl h0 (by rw [sum2]; omega) (by omega)
  · rw [sum2] at this
    exact this
  · unfold laws_markClaimFoeS_0r
    have hB : k + 2 ≤ mB := hB
    simp only [dlt h, dge, cond_true, wrS (show i ≤ 1000000000000000000 by omega), sAt, gAt', List.length_set, wr1 hk (show k ≤ mB + 10 by omega), wr1 (show 0 ≤ k + 1 by omega) (show k + 1 ≤ mB + 10 by omega), ob_eq (markText hN hk (show k ≤ mB by omega)), ob_eq (markText hN (show 0 ≤ k + 1 by omega) (show k + 1 ≤ mB by omega)), gS' h, sS']
    rw [show k + 1 + 1 = k + 2 by omega]
    rfl
  · unfold laws_markClaimFoeS_0r
    rw [dnlt]; rfl
end Go.MC

/- The marks of spots, wants, parts, books: plain words. -/
set_option linter.unusedVariables false
set_option linter.unusedSimpArgs false
namespace Go.MC
open Go.MC.F

theorem wrN {k : Int} (j : Nat) (h0 : 0 ≤ k) (h1 : k + j ≤ mB) : IntKind.i64.wrap (k + j + 1) = k + ((j + 1 : Nat) : Int) := by
  have := mB_eq
  rw [wr (by omega) (by omega)]; omega

/-! Spots -/
def mkS1 (N : Nat) (s : Spot) (k : Int) : Spot := (mkT N k, k + 1, k + 2, k + 3, mkTs N s.2.2.2.2 (k + 4))
def cS1 (s : Spot) : Nat := 4 + s.2.2.2.2.length
def mkSs (N : Nat) (l : List Spot) (k : Int) : List Spot := mkL cS1 (mkS1 N) l k
theorem markClaimSpotS {N : Nat} (hN : lim < N) {l : List Spot} (hl : l.length ≤ 1048576) (hx : ∀ s ∈ l, smS s) {k : Int} (h0 : 0 ≤ k) (h1 : k + sumC cS1 l ≤ mB) : laws_markClaimSpotS N l k = some (k + sumC cS1 l, mkSs N l k) := by
  have hlim := lim_eq
  have hm := mB_eq
  unfold laws_markClaimSpotS laws_markClaimSpotSb
  refine lp_mk cS1 (mkS1 N) smS mB (rd := fun next => laws_markClaimSpotS_0r N next) (fun g i xs k h hs hk hB hxl => ?_) (fun g xs k => ?_) (N := N) (l := l) hx hl h0 h1 (by omega)
  · unfold laws_markClaimSpotS_0r
    have hlen : xs[i].2.2.2.2.length ≤ 1048576 := hs.2.1
    simp only [cS1] at hB ⊢
    simp only [dlt h, dge, cond_true, wrS (show i ≤ 1000000000000000000 by omega), sAt, gAt', List.length_set, ob_eq (markText hN hk (show k ≤ mB by omega)), wr1 hk (show k ≤ mB + 10 by omega), wr1 (show 0 ≤ k + 1 by omega) (show k + 1 ≤ mB + 10 by omega), wr1 (show 0 ≤ k + 1 + 1 by omega) (show k + 1 + 1 ≤ mB + 10 by omega), wr1 (show 0 ≤ k + 1 + 1 + 1 by omega) (show k + 1 + 1 + 1 ≤ mB + 10 by omega), gS' h, sS']
    have e0 : xs.getD i dSpot = xs[i] := by rw [List.getD_eq_getElem?_getD, List.getElem?_eq_getElem h]; rfl
    simp only [e0]
    rw [ob_eq (markStringS hN hlen (show 0 ≤ k + 1 + 1 + 1 + 1 by omega) (show k + 1 + 1 + 1 + 1 + (xs[i].2.2.2.2.length : Int) ≤ mB by omega))]
    unfold mkS1
    rw [show k + 1 + 1 + 1 + 1 = k + 4 by omega, show k + 1 + 1 + 1 = k + 3 by omega, show k + 1 + 1 = k + 2 by omega, show k + 4 + (xs[i].2.2.2.2.length : Int) = k + ((4 + xs[i].2.2.2.2.length : Nat) : Int) by omega]
  · unfold laws_markClaimSpotS_0r
    rw [dnlt]; rfl

/-! Uses -/
def mkU (N : Nat) (l : List Use) (k : Int) : List Use := mkL (fun _ => 3) (fun _ k => (mkT N k, k + 1, k + 2)) l k
theorem markClaimUseS {N : Nat} (hN : lim < N) {l : List Use} (hl : l.length ≤ 1048576) {k : Int} (h0 : 0 ≤ k) (h1 : k + l.length * 3 ≤ mB) : laws_markClaimUseS N l k = some (k + ((l.length * 3 : Nat) : Int), mkU N l k) := by
  have hlim := lim_eq
  have hm := mB_eq
  unfold laws_markClaimUseS laws_markClaimUseSb
  have := lp_mk (fun _ : Use => 3) (fun _ k => (mkT N k, k + 1, k + 2)) (fun _ => True) mB (rd := fun next => laws_markClaimUseS_0r N next) (fun g i xs k h _ hk hB hxl => ?_) (fun g xs k => ?_) (N := N) (l := l) (fun _ _ => trivial) hl h0 (by rw [sum2]; omega) (by omega)
  · rw [sum2] at this
    exact this
  · unfold laws_markClaimUseS_0r
    have hB : k + 3 ≤ mB := hB
    simp only [dlt h, dge, cond_true, wrS (show i ≤ 1000000000000000000 by omega), sAt, gAt', List.length_set, wr1 hk (show k ≤ mB + 10 by omega), wr1 (show 0 ≤ k + 1 by omega) (show k + 1 ≤ mB + 10 by omega), wr1 (show 0 ≤ k + 1 + 1 by omega) (show k + 1 + 1 ≤ mB + 10 by omega), ob_eq (markText hN hk (show k ≤ mB by omega)), gS' h, sS']
    rw [show k + 1 + 1 + 1 = k + 3 by omega, show k + 1 + 1 = k + 2 by omega]
    rfl
  · unfold laws_markClaimUseS_0r
    rw [dnlt]; rfl

/-! Parts -/
def kP (w : Want) (k : Int) : Int := k + ((2 + w.2.2.1.length + w.2.2.2.1.length * 3 + w.2.2.2.2.1.length + w.2.2.2.2.2.length : Nat) : Int)
def mkW (N : Nat) (w : Want) (k : Int) : Want :=
  (k, k + 1, mkTs N w.2.2.1 (k + 2), mkU N w.2.2.2.1 (k + 2 + w.2.2.1.length), mkTs N w.2.2.2.2.1 (k + 2 + w.2.2.1.length + ((w.2.2.2.1.length * 3 : Nat) : Int)), mkTs N w.2.2.2.2.2 (k + 2 + w.2.2.1.length + ((w.2.2.2.1.length * 3 : Nat) : Int) + w.2.2.2.2.1.length))
def mkP1 (N : Nat) (p : Part) (k : Int) : Part := (mkW N p.1 k, Int.tmod (kP p.1 k) 3 == 0)
def cP1 (p : Part) : Nat := 2 + p.1.2.2.1.length + p.1.2.2.2.1.length * 3 + p.1.2.2.2.2.1.length + p.1.2.2.2.2.2.length + 1
def mkPs (N : Nat) (l : List Part) (k : Int) : List Part := mkL cP1 (mkP1 N) l k
theorem markClaimPartS {N : Nat} (hN : lim < N) {l : List Part} (hl : l.length ≤ 1048576) (hx : ∀ p ∈ l, smP p) {k : Int} (h0 : 0 ≤ k) (h1 : k + sumC cP1 l ≤ mB) : laws_markClaimPartS N l k = some (k + sumC cP1 l, mkPs N l k) := by
  have hlim := lim_eq
  have hm := mB_eq
  unfold laws_markClaimPartS laws_markClaimPartSb
  refine lp_mk cP1 (mkP1 N) smP mB (rd := fun next => laws_markClaimPartS_0r N next) (fun g i xs k h hs hk hB hxl => ?_) (fun g xs k => ?_) (N := N) (l := l) hx hl h0 h1 (by omega)
  · unfold laws_markClaimPartS_0r
    have l1 : xs[i].1.2.2.1.length ≤ 1048576 := hs.1.1
    have l2 : xs[i].1.2.2.2.1.length ≤ 1048576 := hs.2.1.1
    have l3 : xs[i].1.2.2.2.2.1.length ≤ 1048576 := hs.2.2.1.1
    have l4 : xs[i].1.2.2.2.2.2.length ≤ 1048576 := hs.2.2.2.1
    simp only [cP1] at hB ⊢
    have e0 : xs.getD i dPart = xs[i] := by rw [List.getD_eq_getElem?_getD, List.getElem?_eq_getElem h]; rfl
    simp only [dlt h, dge, cond_true, wrS (show i ≤ 1000000000000000000 by omega), sAt, gAt', List.length_set, wr1 hk (show k ≤ mB + 10 by omega), wr1 (show 0 ≤ k + 1 by omega) (show k + 1 ≤ mB + 10 by omega), gS' h, sS', e0]
    rw [show k + 1 + 1 = k + 2 by omega]
    rw [ob_eq (markStringS hN l1 (show 0 ≤ k + 2 by omega) (show k + 2 + (xs[i].1.2.2.1.length : Int) ≤ mB by omega))]
    simp only [gS' h, sS']
    rw [ob_eq (markClaimUseS hN l2 (show 0 ≤ k + 2 + (xs[i].1.2.2.1.length : Int) by omega) (show k + 2 + (xs[i].1.2.2.1.length : Int) + (xs[i].1.2.2.2.1.length : Int) * 3 ≤ mB by omega))]
    simp only [gS' h, sS']
    rw [ob_eq (markStringS hN l3 (show 0 ≤ k + 2 + (xs[i].1.2.2.1.length : Int) + ((xs[i].1.2.2.2.1.length * 3 : Nat) : Int) by omega) (show k + 2 + (xs[i].1.2.2.1.length : Int) + ((xs[i].1.2.2.2.1.length * 3 : Nat) : Int) + (xs[i].1.2.2.2.2.1.length : Int) ≤ mB by omega))]
    simp only [gS' h, sS']
    rw [ob_eq (markStringS hN l4 (show 0 ≤ k + 2 + (xs[i].1.2.2.1.length : Int) + ((xs[i].1.2.2.2.1.length * 3 : Nat) : Int) + (xs[i].1.2.2.2.2.1.length : Int) by omega) (show k + 2 + (xs[i].1.2.2.1.length : Int) + ((xs[i].1.2.2.2.1.length * 3 : Nat) : Int) + (xs[i].1.2.2.2.2.1.length : Int) + (xs[i].1.2.2.2.2.2.length : Int) ≤ mB by omega))]
    have ek : k + 2 + (xs[i].1.2.2.1.length : Int) + ((xs[i].1.2.2.2.1.length * 3 : Nat) : Int) + (xs[i].1.2.2.2.2.1.length : Int) + (xs[i].1.2.2.2.2.2.length : Int) = kP xs[i].1 k := by unfold kP; omega
    simp only [gS' h, sS', List.length_set, dlt h, dge, cond_true, ek]
    have hk2 : 0 ≤ kP xs[i].1 k ∧ kP xs[i].1 k ≤ mB := by unfold kP; omega
    rw [wr1 hk2.1 (by omega)]
    have e3 : kP xs[i].1 k + 1 = k + ((2 + xs[i].1.2.2.1.length + xs[i].1.2.2.2.1.length * 3 + xs[i].1.2.2.2.2.1.length + xs[i].1.2.2.2.2.2.length + 1 : Nat) : Int) := by unfold kP; omega
    rw [e3]
    rfl
  · unfold laws_markClaimPartS_0r
    rw [dnlt]; rfl

/-! Books -/
def cB (b : Book) : Nat := b.1.length * 2 + sumC cS1 b.2.1 + b.2.2.1.length + sumC cP1 b.2.2.2.1
theorem cB_le {b : Book} (h : smB b) : cB b ≤ 90000000000000 := by
  have h1 := h.1.1
  have h2 := h.2.1.1
  have h3 : b.2.2.1.length ≤ 1048576 := h.2.2.1.1
  have h4 := h.2.2.2.1
  have h5 := sumC_le (c := cS1) (b := 1048580) (l := b.2.1) fun s hs => by
    have : s.2.2.2.2.length ≤ 1048576 := (h.2.1.2 s hs).2.1
    unfold cS1; omega
  have h6 := sumC_le (c := cP1) (b := 6291459) (l := b.2.2.2.1) fun p hp => by
    have hp := h.2.2.2.2 p hp
    have l1 : p.1.2.2.1.length ≤ 1048576 := hp.1.1
    have l2 : p.1.2.2.2.1.length ≤ 1048576 := hp.2.1.1
    have l3 : p.1.2.2.2.2.1.length ≤ 1048576 := hp.2.2.1.1
    have l4 : p.1.2.2.2.2.2.length ≤ 1048576 := hp.2.2.2.1
    unfold cP1; omega
  have h7 : b.2.1.length * 1048580 ≤ 1048576 * 1048580 := Nat.mul_le_mul_right _ h2
  have h8 : b.2.2.2.1.length * 6291459 ≤ 1048576 * 6291459 := Nat.mul_le_mul_right _ h4
  unfold cB
  omega
def mkB (N : Nat) (b : Book) (k : Int) : List Foe × List Spot × List Txt × List Part :=
  (mkF N b.1 k, mkSs N b.2.1 (k + ((b.1.length * 2 : Nat) : Int)), mkTs N b.2.2.1 (k + ((b.1.length * 2 : Nat) : Int) + sumC cS1 b.2.1), mkPs N b.2.2.2.1 (k + ((b.1.length * 2 : Nat) : Int) + sumC cS1 b.2.1 + b.2.2.1.length))
theorem markClaimBook {N : Nat} (hN : lim < N) {b : Book} (h : smB b) {k : Int} (h0 : 0 ≤ k) (h1 : k ≤ 1000000000000) : laws_markClaimBook N b.1 b.2.1 b.2.2.1 b.2.2.2.1 b.2.2.2.2 k = some (k + cB b, mkB N b k) := by
  have hm := mB_eq
  have hc := cB_le h
  have hcb : cB b = b.1.length * 2 + sumC cS1 b.2.1 + b.2.2.1.length + sumC cP1 b.2.2.2.1 := rfl
  unfold laws_markClaimBook
  rw [ob_eq (markClaimFoeS hN h.1.1 h0 (by omega))]
  simp only
  rw [ob_eq (markClaimSpotS hN h.2.1.1 h.2.1.2 (by omega) (by omega))]
  simp only
  rw [ob_eq (markStringS hN h.2.2.1.1 (by omega) (by omega))]
  simp only
  rw [ob_eq (markClaimPartS hN h.2.2.2.1 h.2.2.2.2 (by omega) (by omega))]
  rw [hcb]
  rw [show k + ((b.1.length * 2 : Nat) : Int) + (sumC cS1 b.2.1 : Int) + (b.2.2.1.length : Int) + (sumC cP1 b.2.2.2.1 : Int) = k + ((b.1.length * 2 + sumC cS1 b.2.1 + b.2.2.1.length + sumC cP1 b.2.2.2.1 : Nat) : Int) by omega]
  rfl
end Go.MC

/- Looking at the marks: plain words. -/
set_option linter.unusedVariables false
set_option linter.unusedSimpArgs false
namespace Go.MC
open Go.MC.F

theorem dnl {α : Type} {l m : List α} (h : m.length = l.length) : decide ((l.length : Int) < (m.length : Int)) = false := by rw [h]; exact dnlt _
theorem heldStringS {N : Nat} (hN : lim < N) {l : List Txt} (hl : l.length ≤ 1048576) {k : Int} (h0 : 0 ≤ k) (h1 : k + l.length ≤ mB) : laws_heldStringS N (mkTs N l k) k = some (k + l.length) := by
  have hlim := lim_eq
  have hm := mB_eq
  unfold laws_heldStringS laws_heldStringSb
  have hlen := mkL_length (fun _ : Txt => 1) (fun _ k => mkT N k) l k
  have := lp_hd (fun _ : Txt => 1) (fun _ k => mkT N k) (fun _ => True) mB (l := l) (k := k) (rd := fun next => laws_heldStringS_0r N (mkTs N l k) next) (fun g i x k' h _ hk hB he => ?_) (fun g k' => ?_) (N := N) (fun _ _ => trivial) h0 (by rw [sum1]; exact h1) (by omega)
  · rw [sum1] at this
    exact this
  · have hi : i ≤ 1048576 := by omega
    have hB : k' + 1 ≤ mB := hB
    unfold laws_heldStringS_0r mkTs
    simp only [dlt h, dge, gAt h, cond_true, wrS (show i ≤ 1000000000000000000 by omega), ob_eq (markText hN hk (show k' ≤ mB by omega)), he, wr1 hk (show k' ≤ mB + 10 by omega), beq_self_eq_true, Bool.not_true, cond_false]
    rfl
  · unfold laws_heldStringS_0r mkTs
    rw [dnl hlen]
    rfl
theorem heldClaimFoeS {N : Nat} (hN : lim < N) {l : List Foe} (hl : l.length ≤ 1048576) {k : Int} (h0 : 0 ≤ k) (h1 : k + l.length * 2 ≤ mB) : laws_heldClaimFoeS N (mkF N l k) k = some (k + ((l.length * 2 : Nat) : Int)) := by
  have hlim := lim_eq
  have hm := mB_eq
  unfold laws_heldClaimFoeS laws_heldClaimFoeSb
  have hlen := mkL_length (fun _ : Foe => 2) (fun _ k => (mkT N k, mkT N (k + 1))) l k
  have := lp_hd (fun _ : Foe => 2) (fun _ k => (mkT N k, mkT N (k + 1))) (fun _ => True) mB (l := l) (k := k) (rd := fun next => laws_heldClaimFoeS_0r N (mkF N l k) next) (fun g i x k' h _ hk hB he => ?_) (fun g k' => ?_) (N := N) (fun _ _ => trivial) h0 (by rw [sum2]; omega) (by omega)
  · rw [sum2] at this
    exact this
  · have hi : i ≤ 1048576 := by omega
    have hB : k' + 2 ≤ mB := hB
    unfold laws_heldClaimFoeS_0r mkF
    simp only [dlt h, dge, gAt h, cond_true, wrS (show i ≤ 1000000000000000000 by omega), wr1 hk (show k' ≤ mB + 10 by omega), wr1 (show 0 ≤ k' + 1 by omega) (show k' + 1 ≤ mB + 10 by omega), ob_eq (markText hN hk (show k' ≤ mB by omega)), ob_eq (markText hN (show 0 ≤ k' + 1 by omega) (show k' + 1 ≤ mB by omega)), he, beq_self_eq_true, Bool.not_true, cond_false]
    rw [show k' + 1 + 1 = k' + 2 by omega]
    rfl
  · unfold laws_heldClaimFoeS_0r mkF
    rw [dnl hlen]
    rfl
theorem heldClaimUseS {N : Nat} (hN : lim < N) {l : List Use} (hl : l.length ≤ 1048576) {k : Int} (h0 : 0 ≤ k) (h1 : k + l.length * 3 ≤ mB) : laws_heldClaimUseS N (mkU N l k) k = some (k + ((l.length * 3 : Nat) : Int)) := by
  have hlim := lim_eq
  have hm := mB_eq
  unfold laws_heldClaimUseS laws_heldClaimUseSb
  have hlen := mkL_length (fun _ : Use => 3) (fun _ k => (mkT N k, k + 1, k + 2)) l k
  have := lp_hd (fun _ : Use => 3) (fun _ k => (mkT N k, k + 1, k + 2)) (fun _ => True) mB (l := l) (k := k) (rd := fun next => laws_heldClaimUseS_0r N (mkU N l k) next) (fun g i x k' h _ hk hB he => ?_) (fun g k' => ?_) (N := N) (fun _ _ => trivial) h0 (by rw [sum2]; omega) (by omega)
  · rw [sum2] at this
    exact this
  · have hi : i ≤ 1048576 := by omega
    have hB : k' + 3 ≤ mB := hB
    unfold laws_heldClaimUseS_0r mkU
    simp only [dlt h, dge, gAt h, cond_true, wrS (show i ≤ 1000000000000000000 by omega), wr1 hk (show k' ≤ mB + 10 by omega), wr1 (show 0 ≤ k' + 1 by omega) (show k' + 1 ≤ mB + 10 by omega), wr1 (show 0 ≤ k' + 1 + 1 by omega) (show k' + 1 + 1 ≤ mB + 10 by omega), ob_eq (markText hN hk (show k' ≤ mB by omega)), he, beq_self_eq_true, bne_self_eq_false, Bool.not_true, cond_false]
    rw [show k' + 1 + 1 + 1 = k' + 3 by omega, show k' + 1 + 1 = k' + 2 by omega]
    simp only [bne_self_eq_false, cond_false]
    rfl
  · unfold laws_heldClaimUseS_0r mkU
    rw [dnl hlen]
    rfl
theorem nneg {k : Int} (h : 0 ≤ k) : decide (k < 0) = false := decide_eq_false (by omega)
theorem heldClaimSpotS {N : Nat} (hN : lim < N) {l : List Spot} (hl : l.length ≤ 1048576) (hx : ∀ s ∈ l, smS s) {k : Int} (h0 : 0 ≤ k) (h1 : k + sumC cS1 l ≤ mB) : laws_heldClaimSpotS N (mkSs N l k) k = some (k + sumC cS1 l) := by
  have hlim := lim_eq
  have hm := mB_eq
  unfold laws_heldClaimSpotS laws_heldClaimSpotSb
  have hlen := mkL_length cS1 (mkS1 N) l k
  refine lp_hd cS1 (mkS1 N) smS mB (l := l) (k := k) (rd := fun next => laws_heldClaimSpotS_0r N (mkSs N l k) next) (fun g i x k' h hs hk hB he => ?_) (fun g k' => ?_) (N := N) hx h0 h1 (by omega)
  · have hi : i ≤ 1048576 := by omega
    have hlen : x.2.2.2.2.length ≤ 1048576 := hs.2.1
    simp only [cS1] at hB ⊢
    unfold laws_heldClaimSpotS_0r mkSs
    simp only [dlt h, dge, gAt h, cond_true, wrS (show i ≤ 1000000000000000000 by omega), wr1 hk (show k' ≤ mB + 10 by omega), wr1 (show 0 ≤ k' + 1 by omega) (show k' + 1 ≤ mB + 10 by omega), wr1 (show 0 ≤ k' + 1 + 1 by omega) (show k' + 1 + 1 ≤ mB + 10 by omega), wr1 (show 0 ≤ k' + 1 + 1 + 1 by omega) (show k' + 1 + 1 + 1 ≤ mB + 10 by omega), ob_eq (markText hN hk (show k' ≤ mB by omega)), he]
    unfold mkS1
    rw [show k' + 1 + 1 + 1 + 1 = k' + 4 by omega, show k' + 1 + 1 + 1 = k' + 3 by omega, show k' + 1 + 1 = k' + 2 by omega]
    simp only [beq_self_eq_true, bne_self_eq_false, Bool.not_true, cond_false, ob_eq (heldStringS hN hlen (show 0 ≤ k' + 4 by omega) (show k' + 4 + (x.2.2.2.2.length : Int) ≤ mB by omega)), nneg (show 0 ≤ k' + 4 + (x.2.2.2.2.length : Int) by omega)]
    rw [show k' + 4 + (x.2.2.2.2.length : Int) = k' + ((4 + x.2.2.2.2.length : Nat) : Int) by omega]
  · unfold laws_heldClaimSpotS_0r mkSs
    rw [dnl hlen]
    rfl
theorem heldClaimPartS {N : Nat} (hN : lim < N) {l : List Part} (hl : l.length ≤ 1048576) (hx : ∀ p ∈ l, smP p) {k : Int} (h0 : 0 ≤ k) (h1 : k + sumC cP1 l ≤ mB) : laws_heldClaimPartS N (mkPs N l k) k = some (k + sumC cP1 l) := by
  have hlim := lim_eq
  have hm := mB_eq
  unfold laws_heldClaimPartS laws_heldClaimPartSb
  have hlen := mkL_length cP1 (mkP1 N) l k
  refine lp_hd cP1 (mkP1 N) smP mB (l := l) (k := k) (rd := fun next => laws_heldClaimPartS_0r N (mkPs N l k) next) (fun g i x k' h hs hk hB he => ?_) (fun g k' => ?_) (N := N) hx h0 h1 (by omega)
  · have hi : i ≤ 1048576 := by omega
    have l1 : x.1.2.2.1.length ≤ 1048576 := hs.1.1
    have l2 : x.1.2.2.2.1.length ≤ 1048576 := hs.2.1.1
    have l3 : x.1.2.2.2.2.1.length ≤ 1048576 := hs.2.2.1.1
    have l4 : x.1.2.2.2.2.2.length ≤ 1048576 := hs.2.2.2.1
    simp only [cP1] at hB ⊢
    unfold laws_heldClaimPartS_0r mkPs
    simp only [dlt h, dge, gAt h, cond_true, wrS (show i ≤ 1000000000000000000 by omega), wr1 hk (show k' ≤ mB + 10 by omega), wr1 (show 0 ≤ k' + 1 by omega) (show k' + 1 ≤ mB + 10 by omega), he]
    unfold mkP1 mkW
    rw [show k' + 1 + 1 = k' + 2 by omega]
    have ek : k' + 2 + (x.1.2.2.1.length : Int) + ((x.1.2.2.2.1.length * 3 : Nat) : Int) + (x.1.2.2.2.2.1.length : Int) + (x.1.2.2.2.2.2.length : Int) = kP x.1 k' := by unfold kP; omega
    have hk2 : 0 ≤ kP x.1 k' ∧ kP x.1 k' ≤ mB := by unfold kP; omega
    have e3 : kP x.1 k' + 1 = k' + ((2 + x.1.2.2.1.length + x.1.2.2.2.1.length * 3 + x.1.2.2.2.2.1.length + x.1.2.2.2.2.2.length + 1 : Nat) : Int) := by unfold kP; omega
    simp only [beq_self_eq_true, bne_self_eq_false, Bool.not_true, cond_false,
      ob_eq (heldStringS hN l1 (show 0 ≤ k' + 2 by omega) (show k' + 2 + (x.1.2.2.1.length : Int) ≤ mB by omega)), nneg (show 0 ≤ k' + 2 + (x.1.2.2.1.length : Int) by omega),
      ob_eq (heldClaimUseS hN l2 (show 0 ≤ k' + 2 + (x.1.2.2.1.length : Int) by omega) (show k' + 2 + (x.1.2.2.1.length : Int) + (x.1.2.2.2.1.length : Int) * 3 ≤ mB by omega)), nneg (show 0 ≤ k' + 2 + (x.1.2.2.1.length : Int) + ((x.1.2.2.2.1.length * 3 : Nat) : Int) by omega),
      ob_eq (heldStringS hN l3 (show 0 ≤ k' + 2 + (x.1.2.2.1.length : Int) + ((x.1.2.2.2.1.length * 3 : Nat) : Int) by omega) (show k' + 2 + (x.1.2.2.1.length : Int) + ((x.1.2.2.2.1.length * 3 : Nat) : Int) + (x.1.2.2.2.2.1.length : Int) ≤ mB by omega)), nneg (show 0 ≤ k' + 2 + (x.1.2.2.1.length : Int) + ((x.1.2.2.2.1.length * 3 : Nat) : Int) + (x.1.2.2.2.2.1.length : Int) by omega),
      ob_eq (heldStringS hN l4 (show 0 ≤ k' + 2 + (x.1.2.2.1.length : Int) + ((x.1.2.2.2.1.length * 3 : Nat) : Int) + (x.1.2.2.2.2.1.length : Int) by omega) (show k' + 2 + (x.1.2.2.1.length : Int) + ((x.1.2.2.2.1.length * 3 : Nat) : Int) + (x.1.2.2.2.2.1.length : Int) + (x.1.2.2.2.2.2.length : Int) ≤ mB by omega)), ek, nneg hk2.1]
    rw [wr1 hk2.1 (by omega), e3]
  · unfold laws_heldClaimPartS_0r mkPs
    rw [dnl hlen]
    rfl
theorem heldClaimBook {N : Nat} (hN : lim < N) {b : Book} (h : smB b) {k : Int} (h0 : 0 ≤ k) (h1 : k ≤ 1000000000000) (n : Int) : laws_heldClaimBook N ((mkB N b k).1, (mkB N b k).2.1, (mkB N b k).2.2.1, (mkB N b k).2.2.2, n) k = some (k + cB b) := by
  have hm := mB_eq
  have hc := cB_le h
  have hcb : cB b = b.1.length * 2 + sumC cS1 b.2.1 + b.2.2.1.length + sumC cP1 b.2.2.2.1 := rfl
  unfold laws_heldClaimBook mkB
  simp only
  rw [ob_eq (heldClaimFoeS hN h.1.1 h0 (by omega)), nneg (by omega), cond_false]
  rw [ob_eq (heldClaimSpotS hN h.2.1.1 h.2.1.2 (by omega) (by omega)), nneg (by omega), cond_false]
  rw [ob_eq (heldStringS hN h.2.2.1.1 (by omega) (by omega)), nneg (by omega), cond_false]
  rw [ob_eq (heldClaimPartS hN h.2.2.2.1 h.2.2.2.2 (by omega) (by omega)), nneg (by omega), cond_false]
  rw [hcb]
  rw [show k + ((b.1.length * 2 : Nat) : Int) + (sumC cS1 b.2.1 : Int) + (b.2.2.1.length : Int) + (sumC cP1 b.2.2.2.1 : Int) = k + ((b.1.length * 2 + sumC cS1 b.2.1 + b.2.2.1.length + sumC cP1 b.2.2.2.1 : Nat) : Int) by omega]
end Go.MC

/- What is granted is put in: the document's and the program's loops. -/
set_option linter.unusedVariables false
set_option linter.unusedSimpArgs false
namespace Go.MC
open Go.MC.F

def idxS (n : Txt) (sp : List Spot) : Int := idxB (fun s : Spot => s.1 == n) 0 sp
theorem idxS_map : ∀ (sp : List Spot) (n : Txt) (i : Nat), idxB (fun s : Spot => s.1 == n) i sp = idxB (fun x => x == n) i (sp.map (·.1))
  | [], _, _ => rfl
  | s :: sp, n, i => by simp only [List.map_cons, idxB]; rw [idxS_map sp n (i + 1)]
theorem idxS_names {sp sq : List Spot} (h : sp.map (·.1) = sq.map (·.1)) (n : Txt) : idxS n sp = idxS n sq := by
  unfold idxS; rw [idxS_map, idxS_map, h]
theorem map_set_same {α β : Type} {l : List α} {k : Nat} {v : α} (f : α → β) (h : (hk : k < l.length) → f v = f l[k]) : (l.set k v).map f = l.map f := by
  refine List.ext_getElem (by simp) fun i h1 h2 => ?_
  simp only [List.length_map, List.length_set] at h1 h2
  simp only [List.getElem_map, List.getElem_set]
  by_cases e : k = i
  · subst e; simp [h h2]
  · simp [e]
def putU (w : Want) (u : Use) (s : Spot) : Spot :=
  (s.1, s.2.1, (bif u.2.1 == 1 then IntKind.i64.wrap (s.2.2.1 - u.2.2) else s.2.2.1), (bif u.2.1 == 2 then IntKind.i64.wrap (s.2.2.2.1 + u.2.2) else s.2.2.2.1), (bif u.2.1 != 1 then insA s.2.2.2.2 w.2.2.1 else s.2.2.2.2))
def putS (w : Want) (sp : List Spot) (u : Use) : List Spot := sp.set (idxS u.1 sp).toNat (putU w u (sp.getD (idxS u.1 sp).toNat dSpot))
def spotG (n : Nat) (s : Spot) : Prop := smT s.1 ∧ Asc s.2.2.2.2 ∧ (∀ x ∈ s.2.2.2.2, smT x) ∧ s.2.2.2.2.length ≤ n
structure PutI (b : Book) (i : Nat) (sp : List Spot) : Prop where
  names : sp.map (·.1) = b.2.1.map (·.1)
  good : ∀ s ∈ sp, spotG (8 + 8 * i) s
theorem PutI.len {b : Book} {i : Nat} {sp : List Spot} (h : PutI b i sp) : sp.length = b.2.1.length := by
  have := congrArg List.length h.names
  simpa using this
theorem putU_good {w : Want} {u : Use} {n : Nat} {s : Spot} (h : spotG n s) (hw : w.2.2.1.length ≤ 8) (hx : ∀ x ∈ w.2.2.1, smT x) : spotG (n + 8) (putU w u s) := by
  obtain ⟨h1, h2, h3, h4⟩ := h
  unfold putU spotG
  refine ⟨h1, ?_⟩
  simp only
  cases u.2.1 != 1 with
  | false => exact ⟨h2, h3, by simp only [cond_false]; omega⟩
  | true =>
    simp only [cond_true]
    have := insA_length w.2.2.1 s.2.2.2.2
    refine ⟨insA_asc _ h2, fun x hm => ?_, by omega⟩
    rcases insA_mem.1 hm with h | h
    · exact h3 x h
    · exact hx x h
theorem PutI.step {b : Book} {i : Nat} {sp : List Spot} (h : PutI b i sp) {w : Want} (u : Use) (hw : w.2.2.1.length ≤ 8) (hx : ∀ x ∈ w.2.2.1, smT x) : PutI b (i + 1) (putS w sp u) := by
  refine ⟨?_, fun s hs => ?_⟩
  · rw [← h.names]
    refine map_set_same _ fun hk => ?_
    unfold putU
    simp only [List.getD_eq_getElem?_getD, List.getElem?_eq_getElem hk, Option.getD_some]
  · have e : 8 + 8 * (i + 1) = 8 + 8 * i + 8 := by omega
    rw [e]
    by_cases hk : (idxS u.1 sp).toNat < sp.length
    · rcases List.mem_or_eq_of_mem_set hs with hs | hs
      · obtain ⟨h1, h2, h3, h4⟩ := h.good s hs
        exact ⟨h1, h2, h3, by omega⟩
      · subst hs
        exact putU_good (h.good _ (getD_mem hk _)) hw hx
    · unfold putS at hs
      rw [List.set_eq_of_length_le (by omega)] at hs
      obtain ⟨h1, h2, h3, h4⟩ := h.good s hs
      exact ⟨h1, h2, h3, by omega⟩
theorem PutI.at {b : Book} {i : Nat} {sp : List Spot} (h : PutI b i sp) {w : Want} (hk : knowsB b w = true) {j : Nat} (hj : j < w.2.2.2.1.length) : 0 ≤ idxS w.2.2.2.1[j].1 sp ∧ idxS w.2.2.2.1[j].1 sp < (sp.length : Int) := by
  have h1 := at_of_knows hk hj
  rw [idxS_names h.names, h.len]
  exact h1

/-- The stuffs, one by one. -/
theorem putStuffs {N : Nat} (hN : lim < N) {nx : Int → List Spot → Option Book} {b0 : List Foe} {b2 : List Txt} {b3 : List Part} {b4 : Int} {w : Want} {t i : Int} {k : Nat} {n : Txt} {role am : Int} {sp : List Spot} (hk : k < sp.length) (hw : w.2.2.1.length ≤ 8) (hs : (sp.getD k dSpot).2.2.2.2.length ≤ 1000) :
    spec_l3Put_2 N nx b0 b2 b3 b4 w t i (k : Int) n role am N 0 sp = nx (IntKind.i64.wrap (i + 1)) (bif role != 1 then sp.set k ((sp.getD k dSpot).1, (sp.getD k dSpot).2.1, (sp.getD k dSpot).2.2.1, (sp.getD k dSpot).2.2.2.1, insA (sp.getD k dSpot).2.2.2.2 w.2.2.1) else sp) := by
  have hlim := lim_eq
  cases hr : role != 1 with
  | false =>
    unfold spec_l3Put_2
    rw [lp_pos _ _ (show 0 < N by omega)]
    unfold spec_l3Put_2r
    rw [hr, cond_false]
    cases decide ((0 : Int) < (w.2.2.1.length : Int)) <;> rfl
  | true =>
    rw [cond_true]
    unfold spec_l3Put_2
    have := lp_walk w.2.2.1 (fun (g : Int → List Spot → Option Book) i (d : List Spot) => g (i : Int) d) (fun _ _ => none) (spec_l3Put_2r N nx b0 b2 b3 b4 w t i (k : Int) n role am)
      (fun _ d x => .inl (d.set k ((d.getD k dSpot).1, (d.getD k dSpot).2.1, (d.getD k dSpot).2.2.1, (d.getD k dSpot).2.2.2.1, insT (d.getD k dSpot).2.2.2.2 x))) (fun d => nx (IntKind.i64.wrap (i + 1)) d) (fun j d => d.length = sp.length ∧ (d.getD k dSpot).2.2.2.2.length ≤ 1000 + j)
      (fun g j d h hi => ⟨by
        obtain ⟨h1, h2⟩ := hi
        have hkd : k < d.length := by omega
        unfold spec_l3Put_2r
        simp only [dlt h, dge, gAt h, gAt', sAt, hr, cond_true, wrS (show j ≤ 1000000000000000000 by omega), dlt hkd, ob_eq (l3Insert hN (show (d.getD k dSpot).2.2.2.2.length ≤ 1048576 by omega) _)]
        rfl, fun st' hs => by
        cases hs
        obtain ⟨h1, h2⟩ := hi
        refine ⟨by simp [h1], ?_⟩
        rw [gS' (show k < d.length by omega)]
        have := insT_length (d.getD k dSpot).2.2.2.2 w.2.2.1[j]
        show (insT (d.getD k dSpot).2.2.2.2 w.2.2.1[j]).length ≤ 1000 + (j + 1)
        omega⟩) (fun g d _ => by
        unfold spec_l3Put_2r
        rw [dnlt]; rfl) N (by omega) sp ⟨rfl, by omega⟩
    refine this.trans ?_
    have : ∀ (xs : List Txt) (j : Nat) (d : List Spot), k < d.length → outW (fun d => nx (IntKind.i64.wrap (i + 1)) d) (walkL (fun _ (d : List Spot) x => (Sum.inl (d.set k ((d.getD k dSpot).1, (d.getD k dSpot).2.1, (d.getD k dSpot).2.2.1, (d.getD k dSpot).2.2.2.1, insT (d.getD k dSpot).2.2.2.2 x)) : List Spot ⊕ Option Book)) j xs d)
        = nx (IntKind.i64.wrap (i + 1)) (d.set k ((d.getD k dSpot).1, (d.getD k dSpot).2.1, (d.getD k dSpot).2.2.1, (d.getD k dSpot).2.2.2.1, insA (d.getD k dSpot).2.2.2.2 xs)) := by
      intro xs
      induction xs with
      | nil =>
        intro j d hd
        simp only [walkL, outW]
        congr 1
        show d = d.set k (d.getD k dSpot)
        rw [List.getD_eq_getElem?_getD, List.getElem?_eq_getElem hd, Option.getD_some, List.set_getElem_self]
      | cons x xs ih =>
        intro j d hd
        simp only [walkL]
        rw [ih _ _ (by simpa using hd), gS' hd, sS']
        rfl
    exact this w.2.2.1 0 sp hk

/-- What is left when it is put in. -/
def putB (b : Book) (w : Want) : Book := (b.1, w.2.2.2.1.foldl (putS w) b.2.1, b.2.2.1, b.2.2.2.1 ++ [(w, false)], w.1)
theorem walk_fold {σ α ρ : Type} (f : σ → α → σ) (fin : σ → Option ρ) : ∀ (xs : List α) (i : Nat) (d : σ), outW fin (walkL (fun _ d x => (Sum.inl (f d x) : σ ⊕ Option ρ)) i xs d) = fin (xs.foldl f d)
  | [], _, _ => rfl
  | x :: xs, i, d => by
    simp only [walkL, List.foldl_cons]
    exact walk_fold f fin xs (i + 1) (f d x)
theorem putI0 {b : Book} (hb : smB b) (hs : ∀ s ∈ b.2.1, nmsOk s.2.2.2.2 8 = true) : PutI b 0 b.2.1 := by
  refine ⟨rfl, fun s h => ?_⟩
  have h1 := hb.2.1.2 s h
  have h2 := hs s h
  refine ⟨h1.1, nms_asc h2, h1.2.2, ?_⟩
  unfold nmsOk at h2
  simp only [Bool.and_eq_true, Bool.not_eq_true', decide_eq_false_iff_not] at h2
  omega
theorem l3Put {N : Nat} (hN : lim < N) {b : Book} {w : Want} (hb : smB b) (hw : smW w) (hs : ∀ s ∈ b.2.1, nmsOk s.2.2.2.2 8 = true) (hk : knowsB b w = true) (h8 : w.2.2.1.length ≤ 8) (hu : w.2.2.2.1.length ≤ 8) :
    spec_l3Put N b.1 b.2.1 b.2.2.1 b.2.2.2.1 w.1 w = some (putB b w) := by
  have hlim := lim_eq
  have hx : ∀ x ∈ w.2.2.1, smT x := hw.1.2
  have hlp := hb.2.2.2.1
  have hls := hb.2.1.1
  unfold spec_l3Put spec_l3Putb
  have := lp_walk w.2.2.2.1 (fun (g : Int → List Spot → Option Book) i (d : List Spot) => g (i : Int) d) (fun _ _ => none) (fun next => spec_l3Put_0r N (spec_l3Put_2 N next b.1 b.2.2.1 b.2.2.2.1 w.1 w 0) b.1 b.2.2.1 b.2.2.2.1 w.1 w 0 next)
    (fun _ d u => .inl (putS w d u)) (fun d => some (b.1, d, b.2.2.1, b.2.2.2.1 ++ [(w, false)], w.1)) (fun i d => PutI b i d)
    (fun g i d h hi => ⟨by
      obtain ⟨h1, h2⟩ := hi.at hk h
      have hld : d.length ≤ 1048576 := by rw [hi.len]; exact hls
      unfold spec_l3Put_0r
      simp only [dlt h, dge, gAt h, cond_true]
      rw [ob_eq (show spec_l2Spot N (b.1, d, b.2.2.1, b.2.2.2.1, w.1) w.2.2.2.1[i].1 = some (idxS w.2.2.2.1[i].1 d) from l2Spot hN (b := (b.1, d, b.2.2.1, b.2.2.2.1, w.1)) hld _)]
      have hgood : (d.getD (idxS w.2.2.2.1[i].1 d).toNat dSpot).2.2.2.2.length ≤ 1000 := by
        have := (hi.good _ (getD_mem (show (idxS w.2.2.2.1[i].1 d).toNat < d.length by omega) dSpot)).2.2.2
        omega
      have hp : putS w d w.2.2.2.1[i] = d.set (idxS w.2.2.2.1[i].1 d).toNat (putU w w.2.2.2.1[i] (d.getD (idxS w.2.2.2.1[i].1 d).toNat dSpot)) := rfl
      obtain ⟨k, ek⟩ : ∃ k : Nat, idxS w.2.2.2.1[i].1 d = (k : Int) := ⟨_, (Int.toNat_of_nonneg h1).symm⟩
      rw [ek] at h1 h2 hgood hp ⊢
      rw [Int.toNat_natCast] at hgood hp
      have hkd : k < d.length := by omega
      simp only [dlt hkd, dge, cond_true, List.length_set, gAt', sAt]
      rw [hp]
      unfold putU
      by_cases r1 : w.2.2.2.1[i].2.1 = 1
      · have q1 : (w.2.2.2.1[i].2.1 == 1) = true := by rw [r1]; rfl
        have q2 : (w.2.2.2.1[i].2.1 == 2) = false := by rw [r1]; rfl
        have q3 : (w.2.2.2.1[i].2.1 != 1) = false := by rw [r1]; rfl
        simp only [q1, q2, q3, cond_true, cond_false]
        rw [putStuffs hN (by simpa using hkd) h8 (by rw [gS' hkd]; exact hgood), q3, cond_false, wrS (show i ≤ 1000000000000000000 by omega)]
        rfl
      · have q1 : (w.2.2.2.1[i].2.1 == 1) = false := beq_eq_false_iff_ne.2 r1
        have q3 : (w.2.2.2.1[i].2.1 != 1) = true := by simp [bne, q1]
        by_cases r2 : w.2.2.2.1[i].2.1 = 2
        · have q2 : (w.2.2.2.1[i].2.1 == 2) = true := by rw [r2]; rfl
          simp only [q1, q2, q3, cond_true, cond_false]
          rw [putStuffs hN (by simpa using hkd) h8 (by rw [gS' hkd]; exact hgood), q3, cond_true, wrS (show i ≤ 1000000000000000000 by omega), gS' hkd, sS']
          rfl
        · have q2 : (w.2.2.2.1[i].2.1 == 2) = false := beq_eq_false_iff_ne.2 r2
          simp only [q1, q2, q3, cond_true, cond_false]
          rw [putStuffs hN hkd h8 hgood, q3, cond_true, wrS (show i ≤ 1000000000000000000 by omega)]
          rfl, fun st' hs => by
      cases hs
      exact hi.step _ h8 hx⟩) (fun g d hd => by
      unfold spec_l3Put_0r
      rw [dnlt, cond_false, ob_eq (l1Want hw)]
      have hg : decide ((b.2.2.2.1.length + [(w, false)].length) * 120 ≤ lim) = true := decide_eq_true (by simp only [List.length_cons, List.length_nil]; omega)
      rw [hg, cond_true]) N (by omega) b.2.1 (putI0 hb hs)
  refine this.trans ?_
  rw [walk_fold]
  rfl
theorem implPut {N : Nat} (hN : lim < N) {b : Book} {w : Want} (hb : smB b) (hw : smW w) (hs : ∀ s ∈ b.2.1, nmsOk s.2.2.2.2 8 = true) (hk : knowsB b w = true) (h8 : w.2.2.1.length ≤ 8) (hu : w.2.2.2.1.length ≤ 8) :
    impl_ClaimGrant_0 N w b (w.2.2.2.1.length : Int) 0 (b.2.2.2.1 ++ [(w, false)]) N 0 b.2.1 = some (putB b w, 0) := by
  have hlim := lim_eq
  have hx : ∀ x ∈ w.2.2.1, smT x := hw.1.2
  have hlp := hb.2.2.2.1
  have hls := hb.2.1.1
  unfold impl_ClaimGrant_0
  have := lp_walk w.2.2.2.1 (fun (g : Int → List Spot → Option (Book × Int)) i (d : List Spot) => g (i : Int) d) (fun _ _ => none) (fun next => impl_ClaimGrant_0r N w b (w.2.2.2.1.length : Int) 0 (b.2.2.2.1 ++ [(w, false)]) next)
    (fun _ d u => .inl (putS w d u)) (fun d => some ((b.1, d, b.2.2.1, b.2.2.2.1 ++ [(w, false)], w.1), 0)) (fun i d => PutI b i d)
    (fun g i d h hi => ⟨by
      obtain ⟨h1, h2⟩ := hi.at hk h
      have hld : d.length ≤ 1048576 := by rw [hi.len]; exact hls
      unfold impl_ClaimGrant_0r
      simp only [dlt h, dge, gAt h, cond_true]
      rw [ob_eq (show impl_ClaimBook_at N (b.1, d, b.2.2.1, b.2.2.2.1 ++ [(w, false)], w.1) w.2.2.2.1[i].1 = some (idxS w.2.2.2.1[i].1 d) from implAt hN (b := (b.1, d, b.2.2.1, b.2.2.2.1 ++ [(w, false)], w.1)) hld _)]
      have hgd := hi.good _ (getD_mem (show (idxS w.2.2.2.1[i].1 d).toNat < d.length by omega) dSpot)
      have hgood : (d.getD (idxS w.2.2.2.1[i].1 d).toNat dSpot).2.2.2.2.length ≤ 1048576 := by
        have := hgd.2.2.2
        omega
      have hasc := hgd.2.1
      have hp : putS w d w.2.2.2.1[i] = d.set (idxS w.2.2.2.1[i].1 d).toNat (putU w w.2.2.2.1[i] (d.getD (idxS w.2.2.2.1[i].1 d).toNat dSpot)) := rfl
      obtain ⟨k, ek⟩ : ∃ k : Nat, idxS w.2.2.2.1[i].1 d = (k : Int) := ⟨_, (Int.toNat_of_nonneg h1).symm⟩
      rw [ek] at h1 h2 hgood hp hasc ⊢
      rw [Int.toNat_natCast] at hgood hp hasc
      have hkd : k < d.length := by omega
      have hboth : impl_both N (d.getD k dSpot).2.2.2.2 w.2.2.1 = some (insA (d.getD k dSpot).2.2.2.2 w.2.2.1) := by
        rw [implBoth hgood (show w.2.2.1.length ≤ 1048576 by omega), insA_comp hasc]
      simp only [dlt hkd, dge, cond_true, List.length_set, gAt', sAt]
      rw [hp]
      unfold putU
      by_cases r1 : w.2.2.2.1[i].2.1 = 1
      · have q1 : (w.2.2.2.1[i].2.1 == 1) = true := by rw [r1]; rfl
        have q2 : (w.2.2.2.1[i].2.1 == 2) = false := by rw [r1]; rfl
        have q3 : (w.2.2.2.1[i].2.1 != 1) = false := by rw [r1]; rfl
        simp only [q1, q2, q3, cond_true, cond_false, wrS (show i ≤ 1000000000000000000 by omega)]
        rfl
      · have q1 : (w.2.2.2.1[i].2.1 == 1) = false := beq_eq_false_iff_ne.2 r1
        have q3 : (w.2.2.2.1[i].2.1 != 1) = true := by simp [bne, q1]
        by_cases r2 : w.2.2.2.1[i].2.1 = 2
        · have q2 : (w.2.2.2.1[i].2.1 == 2) = true := by rw [r2]; rfl
          simp only [q1, q2, q3, cond_true, cond_false, gS' hkd, sS', ob_eq hboth, decide_true, Bool.and_self, wrS (show i ≤ 1000000000000000000 by omega)]
          rfl
        · have q2 : (w.2.2.2.1[i].2.1 == 2) = false := beq_eq_false_iff_ne.2 r2
          simp only [q1, q2, q3, cond_true, cond_false, gS' hkd, sS', ob_eq hboth, decide_true, Bool.and_self, wrS (show i ≤ 1000000000000000000 by omega)]
          rfl, fun st' hs => by
      cases hs
      exact hi.step _ h8 hx⟩) (fun g d hd => by
      unfold impl_ClaimGrant_0r
      rw [dnlt]; rfl) N (by omega) b.2.1 (putI0 hb hs)
  refine this.trans ?_
  rw [walk_fold]
  rfl
end Go.MC


/- The law FnExactClaimOver returns true on every input: what the program tells is what the document tells, by the contracts of all functions that it reaches and a proof in plain Lean. There is no condition. -/
import Derived.Test.YtaihjhaabnfenaaGreatmFnExactClaimOver4
import Derived.Test.YtaihjhaabnfenaaGreatmFnExactClaimOver2
import Derived.Test.YtaihjhaabnfenaaGreatmFnExactClaimOver3
import Derived.Test.YtaihjhaabnfenaaGreatRows
import Derived.WalkKit
import Derived.ProofKit
import Derived.OpenShut
import Derived.ShutString
import Derived.ChangeOld
import Derived.Below
import Derived.SizedLaws
import Derived.Carry
/- The functions do what is told (behind): printed by the program tool/gen.py of this repo. -/
set_option linter.unusedVariables false
set_option maxRecDepth 100000
namespace Go.MC
open Go.Proofs Go.MC.F
noncomputable section
def an_laws_heldClaimFoeS : Nat → Option Ann
  | 0 => some ⟨{ fr := [(0, Dir.keep), (1, Dir.keep), (5, Dir.keep)], bx := [], os := [] }, [(0, { fr := [(1, Dir.keep)], bx := [], os := [] })], { fr := [(4, Dir.keep)], bx := [], os := [] }⟩
  | _ => none
noncomputable def fi_laws_heldClaimFoeS : FI := ⟨Tryz.f95.results.toList, bodyOf Tryz.f95.body, Tryz.f95.ntmps, an_laws_heldClaimFoeS⟩
theorem ok_laws_heldClaimFoeS : FnOK Tryz.prog 95 fi_laws_heldClaimFoeS := ⟨⟨Tryz.f95, Tryz.func95, by kernel_rfl, rfl, rfl, by kernel_rfl⟩, by kernel_rfl⟩
def phiL_laws_heldClaimFoeS (N : Nat) : List (Nat × Summ) := [(155, sm_laws_markText N)]
def sg_laws_heldClaimFoeS : Summ := sigOf [.d (.slice tFoe) false, .d tInt false] false [.d tInt false]
def S_laws_heldClaimFoeS_0 (a : List Foe) (k1 : Int) (i5 : Int) : St := { fr := [(0, AV.w (V1.one (C.v tFoe.slice a))), (1, AV.w (V1.one (C.v tInt k1))), (5, AV.w (V1.one (C.v tInt i5)))], H := [] }
noncomputable def E_laws_heldClaimFoeS (N : Nat) : Env := envOf (tabOf tabL) (tabS (phiL_laws_heldClaimFoeS N)) inl0 N fi_laws_heldClaimFoeS []
noncomputable def K_laws_heldClaimFoeS := (kFun (tabOf tabL) fi_laws_heldClaimFoeS.res (kT (ofDs [tInt]) sg_laws_heldClaimFoeS []))
noncomputable def its_laws_heldClaimFoeS_0 (N : Nat) (n : Nat) : St → Option Int := fun S' => iter [] (annAt fi_laws_heldClaimFoeS 0) (code (E_laws_heldClaimFoeS N) (lpIn fi_laws_heldClaimFoeS.body 0 0) 0) n S' (contOf (E_laws_heldClaimFoeS N) fi_laws_heldClaimFoeS.body 0 0 K_laws_heldClaimFoeS)
noncomputable def it_laws_heldClaimFoeS_0 (N : Nat) (a : List Foe) (n : Nat) : Int → Int → Option Int := fun k1 i5 => its_laws_heldClaimFoeS_0 N n (S_laws_heldClaimFoeS_0 a k1 i5)
theorem fe_laws_heldClaimFoeS_0 (N : Nat) : it_laws_heldClaimFoeS_0 N = laws_heldClaimFoeS_0 N := funext fun a => funext (lp_all (by kernel_rfl) fun n => by
    show _ = laws_heldClaimFoeS_0r N a (it_laws_heldClaimFoeS_0 N a n)
    kernel_rfl)
theorem run_laws_heldClaimFoeS (N : Nat) (a : List ((List UInt8) × (List UInt8))) (k0 : Int) : runST (ofDs [tInt]) (tabOf tabL) (tabS (phiL_laws_heldClaimFoeS N)) inl0 N fi_laws_heldClaimFoeS sg_laws_heldClaimFoeS [⟨.slice tFoe, a⟩, ⟨tInt, k0⟩] = F.laws_heldClaimFoeS N a k0 := by
    show _ = F.laws_heldClaimFoeSb N (F.laws_heldClaimFoeS_0 N) a k0
    rw [← fe_laws_heldClaimFoeS_0 N]
    kernel_rfl
def sm_laws_heldClaimFoeS (N : Nat) : Summ := summOf [.d (.slice tFoe) false, .d tInt false] false [.d tInt false] [tInt] (F.laws_heldClaimFoeS N)
theorem con_laws_heldClaimFoeS (N : Nat) : Contract Tryz.prog 95 (sm_laws_heldClaimFoeS N) := con_of (N := N) tabOK mixed (callOK_list (l := phiL_laws_heldClaimFoeS N) (allc rfl (con_laws_markText N) trivial)) (inl0_ok _) ok_laws_heldClaimFoeS (by decide) fun a k0 => run_laws_heldClaimFoeS N a k0
def an_laws_heldStringS : Nat → Option Ann
  | 0 => some ⟨{ fr := [(0, Dir.keep), (1, Dir.keep), (5, Dir.keep)], bx := [], os := [] }, [(0, { fr := [(1, Dir.keep)], bx := [], os := [] })], { fr := [(4, Dir.keep)], bx := [], os := [] }⟩
  | _ => none
noncomputable def fi_laws_heldStringS : FI := ⟨Tryz.f97.results.toList, bodyOf Tryz.f97.body, Tryz.f97.ntmps, an_laws_heldStringS⟩
theorem ok_laws_heldStringS : FnOK Tryz.prog 97 fi_laws_heldStringS := ⟨⟨Tryz.f97, Tryz.func97, by kernel_rfl, rfl, rfl, by kernel_rfl⟩, by kernel_rfl⟩
def phiL_laws_heldStringS (N : Nat) : List (Nat × Summ) := [(155, sm_laws_markText N)]
def sg_laws_heldStringS : Summ := sigOf [.d tTxts false, .d tInt false] false [.d tInt false]
def S_laws_heldStringS_0 (a : List Txt) (k1 : Int) (i5 : Int) : St := { fr := [(0, AV.w (V1.one (C.v tTxts a))), (1, AV.w (V1.one (C.v tInt k1))), (5, AV.w (V1.one (C.v tInt i5)))], H := [] }
noncomputable def E_laws_heldStringS (N : Nat) : Env := envOf (tabOf tabL) (tabS (phiL_laws_heldStringS N)) inl0 N fi_laws_heldStringS []
noncomputable def K_laws_heldStringS := (kFun (tabOf tabL) fi_laws_heldStringS.res (kT (ofDs [tInt]) sg_laws_heldStringS []))
noncomputable def its_laws_heldStringS_0 (N : Nat) (n : Nat) : St → Option Int := fun S' => iter [] (annAt fi_laws_heldStringS 0) (code (E_laws_heldStringS N) (lpIn fi_laws_heldStringS.body 0 0) 0) n S' (contOf (E_laws_heldStringS N) fi_laws_heldStringS.body 0 0 K_laws_heldStringS)
noncomputable def it_laws_heldStringS_0 (N : Nat) (a : List Txt) (n : Nat) : Int → Int → Option Int := fun k1 i5 => its_laws_heldStringS_0 N n (S_laws_heldStringS_0 a k1 i5)
theorem fe_laws_heldStringS_0 (N : Nat) : it_laws_heldStringS_0 N = laws_heldStringS_0 N := funext fun a => funext (lp_all (by kernel_rfl) fun n => by
    show _ = laws_heldStringS_0r N a (it_laws_heldStringS_0 N a n)
    kernel_rfl)
theorem run_laws_heldStringS (N : Nat) (a : List (List UInt8)) (k0 : Int) : runST (ofDs [tInt]) (tabOf tabL) (tabS (phiL_laws_heldStringS N)) inl0 N fi_laws_heldStringS sg_laws_heldStringS [⟨tTxts, a⟩, ⟨tInt, k0⟩] = F.laws_heldStringS N a k0 := by
    show _ = F.laws_heldStringSb N (F.laws_heldStringS_0 N) a k0
    rw [← fe_laws_heldStringS_0 N]
    kernel_rfl
def sm_laws_heldStringS (N : Nat) : Summ := summOf [.d tTxts false, .d tInt false] false [.d tInt false] [tInt] (F.laws_heldStringS N)
theorem con_laws_heldStringS (N : Nat) : Contract Tryz.prog 97 (sm_laws_heldStringS N) := con_of (N := N) tabOK mixed (callOK_list (l := phiL_laws_heldStringS N) (allc rfl (con_laws_markText N) trivial)) (inl0_ok _) ok_laws_heldStringS (by decide) fun a k0 => run_laws_heldStringS N a k0
def an_laws_heldClaimSpotS : Nat → Option Ann
  | 0 => some ⟨{ fr := [(0, Dir.keep), (1, Dir.keep), (5, Dir.keep)], bx := [], os := [] }, [(0, { fr := [(1, Dir.keep)], bx := [], os := [] })], { fr := [(4, Dir.keep)], bx := [], os := [] }⟩
  | _ => none
noncomputable def fi_laws_heldClaimSpotS : FI := ⟨Tryz.f96.results.toList, bodyOf Tryz.f96.body, Tryz.f96.ntmps, an_laws_heldClaimSpotS⟩
theorem ok_laws_heldClaimSpotS : FnOK Tryz.prog 96 fi_laws_heldClaimSpotS := ⟨⟨Tryz.f96, Tryz.func96, by kernel_rfl, rfl, rfl, by kernel_rfl⟩, by kernel_rfl⟩
def phiL_laws_heldClaimSpotS (N : Nat) : List (Nat × Summ) := [(155, sm_laws_markText N), (97, sm_laws_heldStringS N)]
def sg_laws_heldClaimSpotS : Summ := sigOf [.d (.slice tSpot) false, .d tInt false] false [.d tInt false]
def S_laws_heldClaimSpotS_0 (a : List Spot) (k1 : Int) (i5 : Int) : St := { fr := [(0, AV.w (V1.one (C.v tSpot.slice a))), (1, AV.w (V1.one (C.v tInt k1))), (5, AV.w (V1.one (C.v tInt i5)))], H := [] }
noncomputable def E_laws_heldClaimSpotS (N : Nat) : Env := envOf (tabOf tabL) (tabS (phiL_laws_heldClaimSpotS N)) inl0 N fi_laws_heldClaimSpotS []
noncomputable def K_laws_heldClaimSpotS := (kFun (tabOf tabL) fi_laws_heldClaimSpotS.res (kT (ofDs [tInt]) sg_laws_heldClaimSpotS []))
noncomputable def its_laws_heldClaimSpotS_0 (N : Nat) (n : Nat) : St → Option Int := fun S' => iter [] (annAt fi_laws_heldClaimSpotS 0) (code (E_laws_heldClaimSpotS N) (lpIn fi_laws_heldClaimSpotS.body 0 0) 0) n S' (contOf (E_laws_heldClaimSpotS N) fi_laws_heldClaimSpotS.body 0 0 K_laws_heldClaimSpotS)
noncomputable def it_laws_heldClaimSpotS_0 (N : Nat) (a : List Spot) (n : Nat) : Int → Int → Option Int := fun k1 i5 => its_laws_heldClaimSpotS_0 N n (S_laws_heldClaimSpotS_0 a k1 i5)
theorem fe_laws_heldClaimSpotS_0 (N : Nat) : it_laws_heldClaimSpotS_0 N = laws_heldClaimSpotS_0 N := funext fun a => funext (lp_all (by kernel_rfl) fun n => by
    show _ = laws_heldClaimSpotS_0r N a (it_laws_heldClaimSpotS_0 N a n)
    kernel_rfl)
theorem run_laws_heldClaimSpotS (N : Nat) (a : List ((List UInt8) × ((Int) × ((Int) × ((Int) × (List Txt)))))) (k0 : Int) : runST (ofDs [tInt]) (tabOf tabL) (tabS (phiL_laws_heldClaimSpotS N)) inl0 N fi_laws_heldClaimSpotS sg_laws_heldClaimSpotS [⟨.slice tSpot, a⟩, ⟨tInt, k0⟩] = F.laws_heldClaimSpotS N a k0 := by
    show _ = F.laws_heldClaimSpotSb N (F.laws_heldClaimSpotS_0 N) a k0
    rw [← fe_laws_heldClaimSpotS_0 N]
    kernel_rfl
def sm_laws_heldClaimSpotS (N : Nat) : Summ := summOf [.d (.slice tSpot) false, .d tInt false] false [.d tInt false] [tInt] (F.laws_heldClaimSpotS N)
theorem con_laws_heldClaimSpotS (N : Nat) : Contract Tryz.prog 96 (sm_laws_heldClaimSpotS N) := con_of (N := N) tabOK mixed (callOK_list (l := phiL_laws_heldClaimSpotS N) (allc rfl (con_laws_markText N) (allc rfl (con_laws_heldStringS N) trivial))) (inl0_ok _) ok_laws_heldClaimSpotS (by decide) fun a k0 => run_laws_heldClaimSpotS N a k0
def an_laws_heldClaimUseS : Nat → Option Ann
  | 0 => some ⟨{ fr := [(0, Dir.keep), (1, Dir.keep), (5, Dir.keep)], bx := [], os := [] }, [(0, { fr := [(1, Dir.keep)], bx := [], os := [] })], { fr := [(4, Dir.keep)], bx := [], os := [] }⟩
  | _ => none
noncomputable def fi_laws_heldClaimUseS : FI := ⟨Tryz.f156.results.toList, bodyOf Tryz.f156.body, Tryz.f156.ntmps, an_laws_heldClaimUseS⟩
theorem ok_laws_heldClaimUseS : FnOK Tryz.prog 156 fi_laws_heldClaimUseS := ⟨⟨Tryz.f156, Tryz.func156, by kernel_rfl, rfl, rfl, by kernel_rfl⟩, by kernel_rfl⟩
def phiL_laws_heldClaimUseS (N : Nat) : List (Nat × Summ) := [(155, sm_laws_markText N)]
def sg_laws_heldClaimUseS : Summ := sigOf [.d (.slice tUse) false, .d tInt false] false [.d tInt false]
def S_laws_heldClaimUseS_0 (a : List Use) (k1 : Int) (i5 : Int) : St := { fr := [(0, AV.w (V1.one (C.v tUse.slice a))), (1, AV.w (V1.one (C.v tInt k1))), (5, AV.w (V1.one (C.v tInt i5)))], H := [] }
noncomputable def E_laws_heldClaimUseS (N : Nat) : Env := envOf (tabOf tabL) (tabS (phiL_laws_heldClaimUseS N)) inl0 N fi_laws_heldClaimUseS []
noncomputable def K_laws_heldClaimUseS := (kFun (tabOf tabL) fi_laws_heldClaimUseS.res (kT (ofDs [tInt]) sg_laws_heldClaimUseS []))
noncomputable def its_laws_heldClaimUseS_0 (N : Nat) (n : Nat) : St → Option Int := fun S' => iter [] (annAt fi_laws_heldClaimUseS 0) (code (E_laws_heldClaimUseS N) (lpIn fi_laws_heldClaimUseS.body 0 0) 0) n S' (contOf (E_laws_heldClaimUseS N) fi_laws_heldClaimUseS.body 0 0 K_laws_heldClaimUseS)
noncomputable def it_laws_heldClaimUseS_0 (N : Nat) (a : List Use) (n : Nat) : Int → Int → Option Int := fun k1 i5 => its_laws_heldClaimUseS_0 N n (S_laws_heldClaimUseS_0 a k1 i5)
theorem fe_laws_heldClaimUseS_0 (N : Nat) : it_laws_heldClaimUseS_0 N = laws_heldClaimUseS_0 N := funext fun a => funext (lp_all (by kernel_rfl) fun n => by
    show _ = laws_heldClaimUseS_0r N a (it_laws_heldClaimUseS_0 N a n)
    kernel_rfl)
theorem run_laws_heldClaimUseS (N : Nat) (a : List ((List UInt8) × ((Int) × (Int)))) (k0 : Int) : runST (ofDs [tInt]) (tabOf tabL) (tabS (phiL_laws_heldClaimUseS N)) inl0 N fi_laws_heldClaimUseS sg_laws_heldClaimUseS [⟨.slice tUse, a⟩, ⟨tInt, k0⟩] = F.laws_heldClaimUseS N a k0 := by
    show _ = F.laws_heldClaimUseSb N (F.laws_heldClaimUseS_0 N) a k0
    rw [← fe_laws_heldClaimUseS_0 N]
    kernel_rfl
def sm_laws_heldClaimUseS (N : Nat) : Summ := summOf [.d (.slice tUse) false, .d tInt false] false [.d tInt false] [tInt] (F.laws_heldClaimUseS N)
theorem con_laws_heldClaimUseS (N : Nat) : Contract Tryz.prog 156 (sm_laws_heldClaimUseS N) := con_of (N := N) tabOK mixed (callOK_list (l := phiL_laws_heldClaimUseS N) (allc rfl (con_laws_markText N) trivial)) (inl0_ok _) ok_laws_heldClaimUseS (by decide) fun a k0 => run_laws_heldClaimUseS N a k0
def an_laws_heldClaimPartS : Nat → Option Ann
  | 0 => some ⟨{ fr := [(0, Dir.keep), (1, Dir.keep), (5, Dir.keep)], bx := [], os := [] }, [(0, { fr := [(1, Dir.keep)], bx := [], os := [] })], { fr := [(4, Dir.keep)], bx := [], os := [] }⟩
  | _ => none
noncomputable def fi_laws_heldClaimPartS : FI := ⟨Tryz.f98.results.toList, bodyOf Tryz.f98.body, Tryz.f98.ntmps, an_laws_heldClaimPartS⟩
theorem ok_laws_heldClaimPartS : FnOK Tryz.prog 98 fi_laws_heldClaimPartS := ⟨⟨Tryz.f98, Tryz.func98, by kernel_rfl, rfl, rfl, by kernel_rfl⟩, by kernel_rfl⟩
def phiL_laws_heldClaimPartS (N : Nat) : List (Nat × Summ) := [(97, sm_laws_heldStringS N), (156, sm_laws_heldClaimUseS N)]
def sg_laws_heldClaimPartS : Summ := sigOf [.d (.slice tPart) false, .d tInt false] false [.d tInt false]
def S_laws_heldClaimPartS_0 (a : List Part) (k1 : Int) (i5 : Int) : St := { fr := [(0, AV.w (V1.one (C.v tPart.slice a))), (1, AV.w (V1.one (C.v tInt k1))), (5, AV.w (V1.one (C.v tInt i5)))], H := [] }
noncomputable def E_laws_heldClaimPartS (N : Nat) : Env := envOf (tabOf tabL) (tabS (phiL_laws_heldClaimPartS N)) inl0 N fi_laws_heldClaimPartS []
noncomputable def K_laws_heldClaimPartS := (kFun (tabOf tabL) fi_laws_heldClaimPartS.res (kT (ofDs [tInt]) sg_laws_heldClaimPartS []))
noncomputable def its_laws_heldClaimPartS_0 (N : Nat) (n : Nat) : St → Option Int := fun S' => iter [] (annAt fi_laws_heldClaimPartS 0) (code (E_laws_heldClaimPartS N) (lpIn fi_laws_heldClaimPartS.body 0 0) 0) n S' (contOf (E_laws_heldClaimPartS N) fi_laws_heldClaimPartS.body 0 0 K_laws_heldClaimPartS)
noncomputable def it_laws_heldClaimPartS_0 (N : Nat) (a : List Part) (n : Nat) : Int → Int → Option Int := fun k1 i5 => its_laws_heldClaimPartS_0 N n (S_laws_heldClaimPartS_0 a k1 i5)
theorem fe_laws_heldClaimPartS_0 (N : Nat) : it_laws_heldClaimPartS_0 N = laws_heldClaimPartS_0 N := funext fun a => funext (lp_all (by kernel_rfl) fun n => by
    show _ = laws_heldClaimPartS_0r N a (it_laws_heldClaimPartS_0 N a n)
    kernel_rfl)
theorem run_laws_heldClaimPartS (N : Nat) (a : List (((Int) × ((Int) × ((List Txt) × ((List ((List UInt8) × ((Int) × (Int)))) × ((List Txt) × (List Txt)))))) × (Bool))) (k0 : Int) : runST (ofDs [tInt]) (tabOf tabL) (tabS (phiL_laws_heldClaimPartS N)) inl0 N fi_laws_heldClaimPartS sg_laws_heldClaimPartS [⟨.slice tPart, a⟩, ⟨tInt, k0⟩] = F.laws_heldClaimPartS N a k0 := by
    show _ = F.laws_heldClaimPartSb N (F.laws_heldClaimPartS_0 N) a k0
    rw [← fe_laws_heldClaimPartS_0 N]
    kernel_rfl
def sm_laws_heldClaimPartS (N : Nat) : Summ := summOf [.d (.slice tPart) false, .d tInt false] false [.d tInt false] [tInt] (F.laws_heldClaimPartS N)
theorem con_laws_heldClaimPartS (N : Nat) : Contract Tryz.prog 98 (sm_laws_heldClaimPartS N) := con_of (N := N) tabOK mixed (callOK_list (l := phiL_laws_heldClaimPartS N) (allc rfl (con_laws_heldStringS N) (allc rfl (con_laws_heldClaimUseS N) trivial))) (inl0_ok _) ok_laws_heldClaimPartS (by decide) fun a k0 => run_laws_heldClaimPartS N a k0
def an_laws_heldClaimBook : Nat → Option Ann := fun _ => none
noncomputable def fi_laws_heldClaimBook : FI := ⟨Tryz.f28.results.toList, bodyOf Tryz.f28.body, Tryz.f28.ntmps, an_laws_heldClaimBook⟩
theorem ok_laws_heldClaimBook : FnOK Tryz.prog 28 fi_laws_heldClaimBook := ⟨⟨Tryz.f28, Tryz.func28, by kernel_rfl, rfl, rfl, by kernel_rfl⟩, by kernel_rfl⟩
def phiL_laws_heldClaimBook (N : Nat) : List (Nat × Summ) := [(95, sm_laws_heldClaimFoeS N), (96, sm_laws_heldClaimSpotS N), (97, sm_laws_heldStringS N), (98, sm_laws_heldClaimPartS N)]
def sg_laws_heldClaimBook : Summ := sigOf [.d tBook true, .d tInt false] false [.d tInt false]
theorem run_laws_heldClaimBook (N : Nat) (a : (List ((List UInt8) × (List UInt8))) × ((List ((List UInt8) × ((Int) × ((Int) × ((Int) × (List Txt)))))) × ((List Txt) × ((List (((Int) × ((Int) × ((List Txt) × ((List ((List UInt8) × ((Int) × (Int)))) × ((List Txt) × (List Txt)))))) × (Bool))) × (Int))))) (k0 : Int) : runST (ofDs [tInt]) (tabOf tabL) (tabS (phiL_laws_heldClaimBook N)) inl0 N fi_laws_heldClaimBook sg_laws_heldClaimBook [⟨tBook, a⟩, ⟨tInt, k0⟩] = F.laws_heldClaimBook N a k0 := by kernel_rfl
def sm_laws_heldClaimBook (N : Nat) : Summ := summOf [.d tBook true, .d tInt false] false [.d tInt false] [tInt] (F.laws_heldClaimBook N)
theorem con_laws_heldClaimBook (N : Nat) : Contract Tryz.prog 28 (sm_laws_heldClaimBook N) := con_of (N := N) tabOK mixed (callOK_list (l := phiL_laws_heldClaimBook N) (allc rfl (con_laws_heldClaimFoeS N) (allc rfl (con_laws_heldClaimSpotS N) (allc rfl (con_laws_heldStringS N) (allc rfl (con_laws_heldClaimPartS N) trivial))))) (inl0_ok _) ok_laws_heldClaimBook (by decide) fun a k0 => run_laws_heldClaimBook N a k0
def an_laws_FnExactClaimOver : Nat → Option Ann := fun _ => none
noncomputable def fi_laws_FnExactClaimOver : FI := ⟨Tryz.f6.results.toList, bodyOf Tryz.f6.body, Tryz.f6.ntmps, an_laws_FnExactClaimOver⟩
theorem ok_laws_FnExactClaimOver : FnOK Tryz.prog 6 fi_laws_FnExactClaimOver := ⟨⟨Tryz.f6, Tryz.func6, by kernel_rfl, rfl, rfl, by kernel_rfl⟩, by kernel_rfl⟩
def phiL_laws_FnExactClaimOver (N : Nat) : List (Nat × Summ) := [(24, sm_laws_szClaimBook N), (25, sm_laws_toClaimBook N), (15, sm_spec_ClaimOver N), (14, sm_impl_ClaimOver N), (26, sm_laws_eqClaimBook N), (27, sm_laws_markClaimBook N), (28, sm_laws_heldClaimBook N)]
def sg_laws_FnExactClaimOver : Summ := sigOf [.d tBook true, .d tInt false, .d tInt false, .d (.bool) false] false [.d (.bool) false]
theorem run_laws_FnExactClaimOver (N : Nat) (aB : (List ((List UInt8) × (List UInt8))) × ((List ((List UInt8) × ((Int) × ((Int) × ((Int) × (List Txt)))))) × ((List Txt) × ((List (((Int) × ((Int) × ((List Txt) × ((List ((List UInt8) × ((Int) × (Int)))) × ((List Txt) × (List Txt)))))) × (Bool))) × (Int))))) (aNumber : Int) (aMoved : Int) (aDone : Bool) : runST (ofDs [.bool]) (tabOf tabL) (tabS (phiL_laws_FnExactClaimOver N)) inl0 N fi_laws_FnExactClaimOver sg_laws_FnExactClaimOver [⟨tBook, aB⟩, ⟨tInt, aNumber⟩, ⟨tInt, aMoved⟩, ⟨.bool, aDone⟩] = F.laws_FnExactClaimOver N aB aNumber aMoved aDone := by kernel_rfl
def sm_laws_FnExactClaimOver (N : Nat) : Summ := summOf [.d tBook true, .d tInt false, .d tInt false, .d (.bool) false] false [.d (.bool) false] [.bool] (F.laws_FnExactClaimOver N)
theorem con_laws_FnExactClaimOver (N : Nat) : Contract Tryz.prog 6 (sm_laws_FnExactClaimOver N) := con_of (N := N) tabOK mixed (callOK_list (l := phiL_laws_FnExactClaimOver N) (allc rfl (con_laws_szClaimBook N) (allc rfl (con_laws_toClaimBook N) (allc rfl (con_spec_ClaimOver N) (allc rfl (con_impl_ClaimOver N) (allc rfl (con_laws_eqClaimBook N) (allc rfl (con_laws_markClaimBook N) (allc rfl (con_laws_heldClaimBook N) trivial)))))))) (inl0_ok _) ok_laws_FnExactClaimOver (by decide) fun aB aNumber aMoved aDone => run_laws_FnExactClaimOver N aB aNumber aMoved aDone
end
end Go.MC

/- Loops over lists, in plain Lean (general). -/
set_option linter.unusedVariables false
set_option linter.unusedSimpArgs false
namespace Go.MC

theorem lim_eq : lim = 140737488355328 := rfl
theorem wr {n : Int} (h1 : -9223372036854775808 ≤ n) (h2 : n ≤ 9223372036854775807) : IntKind.i64.wrap n = n := by
  rw [IntKind.wrap_i64]; omega
theorem wrS {i : Nat} (h : i ≤ 1000000000000000000) : IntKind.i64.wrap ((i : Int) + 1) = ((i + 1 : Nat) : Int) := by
  rw [wr (by omega) (by omega)]; omega
theorem wrP {i : Nat} (h : i ≤ 1000000000000000000) (h0 : 0 < i) : IntKind.i64.wrap ((i : Int) - 1) = ((i - 1 : Nat) : Int) := by
  rw [wr (by omega) (by omega)]; omega

theorem ob_eq {α ρ : Type} {o : Option α} {a d : α} {B : α → Option ρ} (h : o = some a) : ob o d B = B a := by rw [h]; rfl

theorem dlt {i n : Nat} (h : i < n) : decide ((i : Int) < (n : Int)) = true := decide_eq_true (by omega)
theorem dnlt (n : Nat) : decide ((n : Int) < (n : Int)) = false := decide_eq_false (by omega)
theorem dge (i : Nat) : decide ((0 : Int) ≤ (i : Int)) = true := decide_eq_true (by omega)
theorem gAt {α : Type} {l : List α} {i : Nat} (h : i < l.length) (d : α) : l.getD (Int.toNat (i : Int)) d = l[i] := by
  rw [Int.toNat_natCast, List.getD_eq_getElem?_getD, List.getElem?_eq_getElem h]; rfl
theorem gAt' {α : Type} {l : List α} {i : Nat} (d : α) : l.getD (Int.toNat (i : Int)) d = l.getD i d := by
  rw [Int.toNat_natCast]
/-- 'i > 0', and what stands ahead of it. -/
theorem dgt0 (i : Nat) : decide ((i : Int) > 0) = !(i == 0) := by
  cases i <;> simp

/-- Every element, with its place. -/
def allI {α : Type} (p : Nat → α → Bool) : Nat → List α → Bool
  | _, [] => true
  | i, x :: xs => p i x && allI p (i + 1) xs

theorem allI_congr {α : Type} {p q : Nat → α → Bool} : ∀ {l : List α} {i : Nat}, (∀ j x, l[j]? = some x → p (i + j) x = q (i + j) x) → allI p i l = allI q i l
  | [], _, _ => rfl
  | x :: xs, i, h => by
    simp only [allI]
    have h2 := allI_congr (p := p) (q := q) (l := xs) (i := i + 1) fun j y hj => by
      have := h (j + 1) y (by simpa using hj)
      rwa [show i + (j + 1) = i + 1 + j by omega] at this
    rw [show p i x = q i x from h 0 x rfl, h2]
theorem allI_iff {α : Type} {p : Nat → α → Bool} : ∀ {l : List α} {i : Nat}, allI p i l = true ↔ ∀ j x, l[j]? = some x → p (i + j) x = true
  | [], i => by simp [allI]
  | x :: xs, i => by
    simp only [allI, Bool.and_eq_true, allI_iff (l := xs)]
    constructor
    · rintro ⟨h1, h2⟩ j y hj
      cases j with
      | zero => simp at hj; subst hj; exact h1
      | succ j =>
        have := h2 j y (by simpa using hj)
        rwa [show i + 1 + j = i + (j + 1) by omega] at this
    · intro h
      refine ⟨h 0 x rfl, fun j y hj => ?_⟩
      have := h (j + 1) y (by simpa using hj)
      rwa [show i + (j + 1) = i + 1 + j by omega] at this
theorem allI_all {α : Type} {p : α → Bool} : ∀ {l : List α} {i : Nat}, allI (fun _ x => p x) i l = l.all p
  | [], _ => rfl
  | x :: xs, i => by simp only [allI, List.all_cons, allI_all]

/-- On with a state, or out. -/
def outW {σ ρ : Type} (fin : σ → Option ρ) : σ ⊕ Option ρ → Option ρ
  | .inl s => fin s
  | .inr r => r

/-- A loop over a list with a state; 'ap' hands the place and the state to the loop's function. -/
theorem lp_walk {α σ ρ F : Type} (l : List α) (ap : F → Nat → σ → Option ρ) (z : F) (rd : F → F) (f : Nat → σ → α → σ ⊕ Option ρ) (fin : σ → Option ρ) (Inv : Nat → σ → Prop)
    (hstep : ∀ (g : F) (i : Nat) (st : σ) (h : i < l.length), Inv i st → ap (rd g) i st = outW (fun st' => ap g (i + 1) st') (f i st l[i]) ∧ ∀ st', f i st l[i] = .inl st' → Inv (i + 1) st')
    (hend : ∀ (g : F) (st : σ), Inv l.length st → ap (rd g) l.length st = fin st) (N : Nat) (hN : l.length < N) (st : σ) (h0 : Inv 0 st) :
    ap (lp z rd N) 0 st = outW fin (walkL f 0 l st) := by
  suffices H : ∀ (m i n : Nat) (st : σ), l.length - i = m → i ≤ l.length → m < n → Inv i st → ap (lp z rd n) i st = outW fin (walkL f i (l.drop i) st) by
    have := H l.length 0 N st (by omega) (by omega) hN h0
    rwa [List.drop_zero] at this
  intro m
  induction m with
  | zero =>
    intro i n st h1 h2 h3 h4
    obtain ⟨n, rfl⟩ : ∃ j, n = j + 1 := ⟨n - 1, by omega⟩
    have hi : i = l.length := by omega
    subst hi
    rw [List.drop_length]
    exact hend _ st h4
  | succ m ih =>
    intro i n st h1 h2 h3 h4
    obtain ⟨n, rfl⟩ : ∃ j, n = j + 1 := ⟨n - 1, by omega⟩
    have hlt : i < l.length := by omega
    obtain ⟨h5, h6⟩ := hstep (lp z rd n) i st hlt h4
    rw [List.drop_eq_getElem_cons hlt]
    simp only [walkL]
    refine h5.trans ?_
    cases hf : f i st l[i] with
    | inl st' => exact ih (i + 1) n st' (by omega) (by omega) (by omega) (h6 st' hf)
    | inr r => rfl

/-- A loop that goes on as long as p holds. -/
theorem lp_allI {α ρ : Type} (l : List α) (rd : (Int → Option ρ) → Int → Option ρ) (p : Nat → α → Bool) (r fin : Option ρ)
    (hstep : ∀ (g : Int → Option ρ) (i : Nat) (h : i < l.length), rd g (i : Int) = bif p i l[i] then g ((i + 1 : Nat) : Int) else r)
    (hend : ∀ (g : Int → Option ρ), rd g (l.length : Int) = fin) (N : Nat) (hN : l.length < N) : lp (fun _ => none) rd N 0 = bif allI p 0 l then fin else r := by
  have := lp_walk l (fun (g : Int → Option ρ) i (_ : Unit) => g (i : Int)) (fun _ => none) rd (fun i _ x => bif p i x then .inl () else .inr r) (fun _ => fin) (fun _ _ => True)
    (fun g i st h _ => ⟨by
      rw [hstep g i h]
      cases p i l[i] <;> rfl, fun _ _ => trivial⟩) (fun g _ _ => hend g) N hN () trivial
  refine this.trans ?_
  have : ∀ (l : List α) i, outW (fun _ => fin) (walkL (fun i (_ : Unit) x => bif p i x then Sum.inl () else Sum.inr r) i l ()) = bif allI p i l then fin else r := by
    intro l
    induction l with
    | nil => intro i; rfl
    | cons x xs ih =>
      intro i
      simp only [walkL, allI]
      cases p i x with
      | true => simpa using ih (i + 1)
      | false => rfl
  exact this l 0

/-- A loop that fills a row. -/
theorem lp_set {α β : Type} {l : List α} {rd : (Int → List β → Option (List β)) → Int → List β → Option (List β)} (g : α → β)
    (hstep : ∀ (f : Int → List β → Option (List β)) (i : Nat) (out : List β) (h : i < l.length), out.length = l.length → rd f (i : Int) out = f ((i + 1 : Nat) : Int) (out.set i (g l[i])))
    (hend : ∀ (f : Int → List β → Option (List β)) (out : List β), rd f (l.length : Int) out = some out) {N : Nat} (hN : l.length < N) {out : List β} (ho : out.length = l.length) : lp (fun _ _ => none) rd N 0 out = some (l.map g) := by
  suffices H : ∀ (m i n : Nat) (out : List β), l.length - i = m → i ≤ l.length → m < n → out.length = l.length → lp (fun _ _ => none) rd n (i : Int) out = some (out.take i ++ (l.drop i).map g) by
    have := H l.length 0 N out (by omega) (by omega) hN ho
    simpa using this
  intro m
  induction m with
  | zero =>
    intro i n out h1 h2 h3 h4
    obtain ⟨n, rfl⟩ : ∃ j, n = j + 1 := ⟨n - 1, by omega⟩
    have hi : i = l.length := by omega
    subst hi
    refine (hend _ out).trans ?_
    rw [List.drop_length, List.take_of_length_le (by omega)]
    simp
  | succ m ih =>
    intro i n out h1 h2 h3 h4
    obtain ⟨n, rfl⟩ : ∃ j, n = j + 1 := ⟨n - 1, by omega⟩
    have hlt : i < l.length := by omega
    refine (hstep _ i out hlt h4).trans ((ih (i + 1) n _ (by omega) (by omega) (by omega) (by simpa using h4)).trans ?_)
    congr 1
    rw [List.take_add_one]
    have h5 : i < out.length := by omega
    have h6 : (out.set i (g l[i])).take i = out.take i := by
      rw [List.take_set]
      exact List.set_eq_of_length_le (by simp; omega)
    rw [h6, List.drop_eq_getElem_cons hlt]
    simp only [List.getElem?_set_self h5, List.map_cons, Option.toList_some, List.append_assoc, List.singleton_append]

end Go.MC

/- What the functions that ClaimWantOk reaches tell, in short words. -/
set_option linter.unusedVariables false
set_option linter.unusedSimpArgs false
namespace Go.MC
open Go.MC.F

/-! Sizes -/
def smT (s : Txt) : Prop := s.length ≤ 1048576
def smL (l : List Txt) : Prop := l.length ≤ 1048576 ∧ ∀ x ∈ l, smT x
def smU (u : Use) : Prop := smT u.1
def smW (w : Want) : Prop := smL w.2.2.1 ∧ (w.2.2.2.1.length ≤ 1048576 ∧ ∀ u ∈ w.2.2.2.1, smU u) ∧ smL w.2.2.2.2.1 ∧ smL w.2.2.2.2.2

/-- A loop that counts down what is left. -/
theorem sz_loop {α : Type} (l : List α) (hl : l.length ≤ lim) (e : α → Int → Int) (P : α → Prop) (rd : (Int → Int → Option Int) → Int → Int → Option Int)
    (he : ∀ x ∈ l, ∀ st : Int, 0 ≤ st → st ≤ 1048576 → e x st ≤ st ∧ -1 ≤ e x st ∧ (0 ≤ e x st → P x))
    (hstep : ∀ (g : Int → Int → Option Int) (i : Nat) (st : Int) (h : i < l.length), 0 ≤ st → st ≤ 1048576 → rd g st (i : Int) = if e l[i] st < 0 then some (-1) else g (e l[i] st) ((i + 1 : Nat) : Int))
    (hend : ∀ (g : Int → Int → Option Int) (st : Int), rd g st (l.length : Int) = some st) (N : Nat) (hN : l.length < N) (left : Int) (h0 : 0 ≤ left) (h1 : left ≤ 1048576) :
    ∃ r, lp (fun _ _ => none) rd N left 0 = some r ∧ r ≤ left ∧ -1 ≤ r ∧ (0 ≤ r → ∀ x ∈ l, P x) := by
  have h := lp_walk l (fun (g : Int → Int → Option Int) i (st : Int) => g st (i : Int)) (fun _ _ => none) rd (fun _ st x => if e x st < 0 then .inr (some (-1)) else .inl (e x st)) (fun st => some st) (fun _ st => 0 ≤ st ∧ st ≤ 1048576)
    (fun g i st h hi => ⟨by
      rw [hstep g i st h hi.1 hi.2]
      split <;> rfl, fun st' hs => by
      split at hs
      · cases hs
      · cases hs
        have := he _ (List.getElem_mem h) st hi.1 hi.2
        omega⟩) (fun g st _ => hend g st) N hN left ⟨h0, h1⟩
  have h : lp (fun _ _ => none) rd N left 0 = _ := h
  rw [h]
  clear h hstep hend
  suffices H : ∀ (l : List α) (i : Nat) (st : Int), (∀ x ∈ l, ∀ st : Int, 0 ≤ st → st ≤ 1048576 → e x st ≤ st ∧ -1 ≤ e x st ∧ (0 ≤ e x st → P x)) → 0 ≤ st → st ≤ 1048576 →
      ∃ r, outW (fun st => some st) (walkL (fun (_ : Nat) st x => if e x st < 0 then Sum.inr (some (-1)) else Sum.inl (e x st)) i l st) = some r ∧ r ≤ st ∧ -1 ≤ r ∧ (0 ≤ r → ∀ x ∈ l, P x) from H l 0 left he h0 h1
  intro l
  induction l with
  | nil => exact fun i st _ h0 h1 => ⟨st, rfl, by omega, by omega, fun _ x hx => by simp at hx⟩
  | cons x xs ih =>
    intro i st he h0 h1
    have hx := he x (by simp) st h0 h1
    simp only [walkL]
    by_cases hneg : e x st < 0
    · rw [if_pos hneg]
      exact ⟨-1, rfl, by omega, by omega, fun h => by omega⟩
    · rw [if_neg hneg]
      obtain ⟨r, h2, h3, h4, h5⟩ := ih (i + 1) (e x st) (fun y hy => he y (by simp [hy])) (by omega) (by omega)
      exact ⟨r, h2, by omega, h4, fun hr y hy => by
        rcases List.mem_cons.1 hy with rfl | hy
        · exact hx.2.2 (by omega)
        · exact h5 hr y hy⟩

theorem szStringS {N : Nat} (hN : lim < N) {a : List Txt} (ha : a.length ≤ lim) (hx : ∀ x ∈ a, x.length ≤ lim) {left : Int} (h0 : 0 ≤ left) (h1 : left ≤ 1048576) :
    ∃ r, laws_szStringS N a left = some r ∧ r ≤ left ∧ -1 ≤ r ∧ (0 ≤ r → smL a) := by
  have hlim := lim_eq
  unfold laws_szStringS laws_szStringSb
  rw [wr (n := left - a.length) (by omega) (by omega)]
  by_cases hneg : left - (a.length : Int) < 0
  · rw [decide_eq_true hneg]
    exact ⟨-1, rfl, by omega, by omega, fun h => by omega⟩
  · rw [decide_eq_false hneg]
    obtain ⟨r, h2, h3, h4, h5⟩ := sz_loop a ha (fun x st => if st < x.length then -1 else st - x.length) (fun x => smT x) (laws_szStringS_0r N a) (fun x hm st h0 h1 => by
      unfold smT
      split <;> omega) (fun g i st h h0 h1 => by
        have := hx _ (List.getElem_mem h)
        unfold laws_szStringS_0r
        simp only [dlt h, dge, gAt h, cond_true, wrS (show i ≤ 1000000000000000000 by omega)]
        rw [wr (by omega) (by omega)]
        by_cases hn : st - (a[i].length : Int) < 0
        · rw [decide_eq_true hn, if_pos (by rw [if_pos (by omega)]; omega)]; rfl
        · rw [decide_eq_false hn, if_neg (by rw [if_neg (by omega)]; omega), if_neg (by omega)]; rfl) (fun g st => by
        unfold laws_szStringS_0r
        rw [dnlt]; rfl) N (by omega) (left - a.length) (by omega) (by omega)
    exact ⟨r, h2, by omega, h4, fun h => ⟨by omega, h5 h⟩⟩
theorem szClaimUse {N : Nat} {u : Use} (hx : u.1.length ≤ lim) {left : Int} (h0 : 0 ≤ left) (h1 : left ≤ 1048576) :
    laws_szClaimUse N u left = some (if left < u.1.length then -1 else left - u.1.length) := by
  have hlim := lim_eq
  unfold laws_szClaimUse
  rw [wr (by omega) (by omega)]
  by_cases hn : left - (u.1.length : Int) < 0
  · rw [decide_eq_true hn, if_pos (by omega)]; rfl
  · rw [decide_eq_false hn, if_neg (by omega)]; rfl

theorem szClaimUseS {N : Nat} (hN : lim < N) {a : List Use} (ha : a.length ≤ lim) (hx : ∀ x ∈ a, x.1.length ≤ lim) {left : Int} (h0 : 0 ≤ left) (h1 : left ≤ 1048576) :
    ∃ r, laws_szClaimUseS N a left = some r ∧ r ≤ left ∧ -1 ≤ r ∧ (0 ≤ r → a.length ≤ 1048576 ∧ ∀ u ∈ a, smU u) := by
  have hlim := lim_eq
  unfold laws_szClaimUseS laws_szClaimUseSb
  rw [wr (n := left - a.length) (by omega) (by omega)]
  by_cases hneg : left - (a.length : Int) < 0
  · rw [decide_eq_true hneg]
    exact ⟨-1, rfl, by omega, by omega, fun h => by omega⟩
  · rw [decide_eq_false hneg]
    obtain ⟨r, h2, h3, h4, h5⟩ := sz_loop a ha (fun x st => if st < x.1.length then -1 else st - x.1.length) (fun x => smU x) (laws_szClaimUseS_0r N a) (fun x hm st h0 h1 => by
      unfold smU smT
      split <;> omega) (fun g i st h h0 h1 => by
        have := hx _ (List.getElem_mem h)
        unfold laws_szClaimUseS_0r
        simp only [dlt h, dge, gAt h, cond_true, wrS (show i ≤ 1000000000000000000 by omega)]
        rw [ob_eq (szClaimUse this h0 h1)]
        by_cases hn : (if st < (a[i].1.length : Int) then -1 else st - (a[i].1.length : Int)) < 0
        · rw [decide_eq_true hn, if_pos hn]; rfl
        · rw [decide_eq_false hn, if_neg hn]; rfl) (fun g st => by
        unfold laws_szClaimUseS_0r
        rw [dnlt]; rfl) N (by omega) (left - a.length) (by omega) (by omega)
    exact ⟨r, h2, by omega, h4, fun h => ⟨by omega, h5 h⟩⟩

theorem szNext {o : Option Int} {left : Int} {A B : Prop} (h0 : 0 ≤ left) (h1 : left ≤ 1048576) (h : ∃ r, o = some r ∧ r ≤ left ∧ -1 ≤ r ∧ (0 ≤ r → A)) {B' : Int → Option Int} (hB : ∀ r, 0 ≤ r → r ≤ 1048576 → ∃ q, B' r = some q ∧ q ≤ r ∧ -1 ≤ q ∧ (0 ≤ q → B)) :
    ∃ r, (ob o (Int.ofNat 0) fun r => bif decide (r < 0) then some (-1) else B' r) = some r ∧ r ≤ left ∧ -1 ≤ r ∧ (0 ≤ r → A ∧ B) := by
  obtain ⟨r, rfl, h2, h3, h4⟩ := h
  rw [ob_eq rfl]
  by_cases hn : r < 0
  · rw [decide_eq_true hn]
    exact ⟨-1, rfl, by omega, by omega, fun h => by omega⟩
  · rw [decide_eq_false hn]
    obtain ⟨q, h5, h6, h7, h8⟩ := hB r (by omega) (by omega)
    exact ⟨q, h5, by omega, h7, fun h => ⟨h4 (by omega), h8 h⟩⟩
theorem szLast {o : Option Int} {left : Int} {A : Prop} (h : ∃ r, o = some r ∧ r ≤ left ∧ -1 ≤ r ∧ (0 ≤ r → A)) :
    ∃ r, (ob o (Int.ofNat 0) fun r => bif decide (r < 0) then some (-1) else some r) = some r ∧ r ≤ left ∧ -1 ≤ r ∧ (0 ≤ r → A) := by
  obtain ⟨r, rfl, h2, h3, h4⟩ := h
  rw [ob_eq rfl]
  by_cases hn : r < 0
  · rw [decide_eq_true hn]
    exact ⟨-1, rfl, by omega, by omega, fun h => by omega⟩
  · rw [decide_eq_false hn]
    exact ⟨r, rfl, h2, h3, h4⟩

/-- What fits. -/
def fitW (w : Want) : Prop := (w.2.2.1.length ≤ lim ∧ ∀ x ∈ w.2.2.1, x.length ≤ lim) ∧ (w.2.2.2.1.length ≤ lim ∧ ∀ u ∈ w.2.2.2.1, u.1.length ≤ lim) ∧ (w.2.2.2.2.1.length ≤ lim ∧ ∀ x ∈ w.2.2.2.2.1, x.length ≤ lim) ∧ (w.2.2.2.2.2.length ≤ lim ∧ ∀ x ∈ w.2.2.2.2.2, x.length ≤ lim)

theorem szClaimWant {N : Nat} (hN : lim < N) {w : Want} (hw : fitW w) {left : Int} (h0 : 0 ≤ left) (h1 : left ≤ 1048576) :
    ∃ r, laws_szClaimWant N w left = some r ∧ r ≤ left ∧ -1 ≤ r ∧ (0 ≤ r → smW w) := by
  obtain ⟨⟨a1, a2⟩, ⟨b1, b2⟩, ⟨c1, c2⟩, ⟨d1, d2⟩⟩ := hw
  exact szNext h0 h1 (szStringS hN a1 a2 h0 h1) fun r h0 h1 => szNext h0 h1 (szClaimUseS hN b1 b2 h0 h1) fun r h0 h1 => szNext h0 h1 (szStringS hN c1 c2 h0 h1) fun r h0 h1 => szLast (szStringS hN d1 d2 h0 h1)

/-! Copies -/
theorem toStringS {N : Nat} (hN : lim < N) {a : List Txt} (h : a.length ≤ 1048576) : laws_toStringS N a = some a := by
  have hlim := lim_eq
  unfold laws_toStringS laws_toStringSb
  have h1 : (decide (((a.length : Nat) : Int).toNat * 16 ≤ lim) && (Nat.ble 1 16 && true)) = true := by
    rw [decide_eq_true (by rw [Int.toNat_natCast]; omega)]; rfl
  simp only [h1, cond_true, decide_true]
  refine (lp_set (l := a) (fun x => x) (fun f i out hi ho => ?_) (fun f out => ?_) (by omega) (by simp)).trans (by simp)
  · unfold laws_toStringS_0r
    simp only [dlt hi, dge, gAt hi, cond_true, wrS (show i ≤ 1000000000000000000 by omega), dlt (show i < out.length by omega)]
    rfl
  · unfold laws_toStringS_0r
    rw [dnlt]; rfl

theorem toClaimUseS {N : Nat} (hN : lim < N) {a : List Use} (h : a.length ≤ 1048576) : laws_toClaimUseS N a = some a := by
  have hlim := lim_eq
  unfold laws_toClaimUseS laws_toClaimUseSb
  have h1 : (decide (((a.length : Nat) : Int).toNat * 32 ≤ lim) && (Nat.ble 1 32 && true)) = true := by
    rw [decide_eq_true (by rw [Int.toNat_natCast]; omega)]; rfl
  simp only [h1, cond_true, decide_true]
  refine (lp_set (l := a) (fun x => x) (fun f i out hi ho => ?_) (fun f out => ?_) (by omega) (by simp)).trans (by simp)
  · unfold laws_toClaimUseS_0r
    simp only [dlt hi, dge, gAt hi, cond_true, wrS (show i ≤ 1000000000000000000 by omega), dlt (show i < out.length by omega)]
    rw [ob_eq (show laws_toClaimUse N a[i] = some a[i] from rfl)]
    rfl
  · unfold laws_toClaimUseS_0r
    rw [dnlt]; rfl

theorem toClaimWant {N : Nat} (hN : lim < N) {w : Want} (h : smW w) : laws_toClaimWant N w = some w := by
  obtain ⟨h1, h2, h3, h4⟩ := h
  unfold laws_toClaimWant
  rw [ob_eq (toStringS hN h1.1), ob_eq (toClaimUseS hN h2.1), ob_eq (toStringS hN h3.1), ob_eq (toStringS hN h4.1)]

/-! The same is the same -/
theorem ne_self_i (n : Int) : (n != n) = false := by simp
theorem eqStringS {N : Nat} (hN : lim < N) {a : List Txt} (h : a.length ≤ 1048576) : laws_eqStringS N a a = some true := by
  have hlim := lim_eq
  unfold laws_eqStringS laws_eqStringSb
  simp only [bne_self_eq_false, cond_false]
  refine (lp_allI a _ (fun _ _ => true) (some false) (some true) (fun g i hi => ?_) (fun g => ?_) N (by omega)).trans ?_
  · unfold laws_eqStringS_0r
    simp only [dlt hi, dge, gAt hi, cond_true, wrS (show i ≤ 1000000000000000000 by omega), beq_self_eq_true, Bool.not_true, cond_false]
  · unfold laws_eqStringS_0r
    rw [dnlt]; rfl
  · rw [show allI (fun _ (_ : Txt) => true) 0 a = true from allI_iff.2 fun _ _ _ => rfl]; rfl
theorem eqClaimUse {N : Nat} (u : Use) : laws_eqClaimUse N u u = some true := by
  unfold laws_eqClaimUse
  simp
theorem eqClaimUseS {N : Nat} (hN : lim < N) {a : List Use} (h : a.length ≤ 1048576) : laws_eqClaimUseS N a a = some true := by
  have hlim := lim_eq
  unfold laws_eqClaimUseS laws_eqClaimUseSb
  simp only [bne_self_eq_false, cond_false]
  refine (lp_allI a _ (fun _ _ => true) (some false) (some true) (fun g i hi => ?_) (fun g => ?_) N (by omega)).trans ?_
  · unfold laws_eqClaimUseS_0r
    simp only [dlt hi, dge, gAt hi, cond_true, wrS (show i ≤ 1000000000000000000 by omega)]
    rw [ob_eq (eqClaimUse _)]; rfl
  · unfold laws_eqClaimUseS_0r
    rw [dnlt]; rfl
  · rw [show allI (fun _ (_ : Use) => true) 0 a = true from allI_iff.2 fun _ _ _ => rfl]; rfl
theorem eqClaimWant {N : Nat} (hN : lim < N) {w : Want} (h : smW w) : laws_eqClaimWant N w w = some true := by
  obtain ⟨h1, h2, h3, h4⟩ := h
  unfold laws_eqClaimWant
  simp only [bne_self_eq_false, cond_false]
  rw [ob_eq (eqStringS hN h1.1)]
  simp only [Bool.not_true, cond_false]
  rw [ob_eq (eqClaimUseS hN h2.1)]
  simp only [Bool.not_true, cond_false]
  rw [ob_eq (eqStringS hN h3.1)]
  simp only [Bool.not_true, cond_false]
  rw [ob_eq (eqStringS hN h4.1)]
  simp only [Bool.not_true, cond_false]

/-! Names -/
def inB (n lo hi : Int) : Bool := decide (n ≥ lo) && decide (n ≤ hi)
theorem l1In {N : Nat} (n lo hi : Int) : spec_l1In N n lo hi = some (inB n lo hi) := by
  unfold spec_l1In inB
  cases decide (n ≥ lo) <;> rfl
theorem implIn {N : Nat} (n lo hi : Int) : impl_in N n lo hi = some (inB n lo hi) := by
  unfold impl_in inB
  cases decide (n ≥ lo) <;> rfl

def nmB (b : UInt8) : Bool := (decide ((b.toNat : Int) ≥ 97) && decide ((b.toNat : Int) ≤ 122)) || ((decide ((b.toNat : Int) ≥ 48) && decide ((b.toNat : Int) ≤ 57)) || ((b.toNat : Int) == 45))
def nmOk (s : Txt) : Bool := inB s.length 1 8 && s.all nmB

theorem l1NameOk {N : Nat} (hN : lim < N) (s : Txt) : spec_l1NameOk N s = some (nmOk s) := by
  have hlim := lim_eq
  unfold spec_l1NameOk spec_l1NameOkb nmOk
  rw [ob_eq (l1In _ _ _)]
  cases hb : inB s.length 1 8 with
  | false => rfl
  | true =>
    have hl : s.length ≤ 8 := by
      simp only [inB, Bool.and_eq_true, decide_eq_true_eq] at hb
      omega
    refine (lp_allI s _ (fun _ x => nmB x) (some false) (some true) (fun g i hi => ?_) (fun g => ?_) N (by omega)).trans ?_
    · unfold spec_l1NameOk_0r
      simp only [dlt hi, dge, gAt hi, cond_true, wrS (show i ≤ 1000000000000000000 by omega), nmB]
      generalize decide ((s[i].toNat : Int) ≥ 97) = a1
      generalize decide ((s[i].toNat : Int) ≤ 122) = a2
      generalize decide ((s[i].toNat : Int) ≥ 48) = a3
      generalize decide ((s[i].toNat : Int) ≤ 57) = a4
      generalize ((s[i].toNat : Int) == 45) = a5
      cases a1 <;> cases a2 <;> cases a3 <;> cases a4 <;> cases a5 <;> rfl
    · unfold spec_l1NameOk_0r
      rw [dnlt]; rfl
    · rw [allI_all]
      cases s.all nmB <;> rfl
theorem implName {N : Nat} (hN : lim < N) (s : Txt) : impl_name N s = some (nmOk s) := by
  have hlim := lim_eq
  unfold impl_name impl_nameb nmOk
  rw [ob_eq (implIn _ _ _)]
  cases hb : inB s.length 1 8 with
  | false => rfl
  | true =>
    have hl : s.length ≤ 8 := by
      simp only [inB, Bool.and_eq_true, decide_eq_true_eq] at hb
      omega
    refine (lp_allI s _ (fun _ x => nmB x) (some false) (some true) (fun g i hi => ?_) (fun g => ?_) N (by omega)).trans ?_
    · unfold impl_name_0r
      simp only [dlt hi, dge, gAt hi, cond_true, wrS (show i ≤ 1000000000000000000 by omega), nmB]
      generalize decide ((s[i].toNat : Int) ≥ 97) = a1
      generalize decide ((s[i].toNat : Int) ≤ 122) = a2
      generalize decide ((s[i].toNat : Int) ≥ 48) = a3
      generalize decide ((s[i].toNat : Int) ≤ 57) = a4
      generalize ((s[i].toNat : Int) == 45) = a5
      cases a1 <;> cases a2 <;> cases a3 <;> cases a4 <;> cases a5 <;> rfl
    · unfold impl_name_0r
      rw [dnlt]; rfl
    · rw [allI_all]
      cases s.all nmB <;> rfl

/-- Ascending names, not too many. -/
def ascI (l : List Txt) (i : Nat) (x : Txt) : Bool := i == 0 || Op.bytesLess (l.getD (i - 1) []) x
def nmsOk (l : List Txt) (most : Int) : Bool := !decide ((l.length : Int) > most) && allI (fun i x => nmOk x && ascI l i x) 0 l

theorem l1NamesOk {N : Nat} (hN : lim < N) {l : List Txt} (hl : l.length ≤ lim) (most : Int) : spec_l1NamesOk N l most = some (nmsOk l most) := by
  have hlim := lim_eq
  unfold spec_l1NamesOk spec_l1NamesOkb nmsOk
  cases hb : decide ((l.length : Int) > most) with
  | true => rfl
  | false =>
    refine (lp_allI l _ (fun i x => nmOk x && ascI l i x) (some false) (some true) (fun g i hi => ?_) (fun g => ?_) N (by omega)).trans ?_
    · unfold spec_l1NamesOk_0r ascI
      simp only [dlt hi, dge, gAt hi, cond_true, wrS (show i ≤ 1000000000000000000 by omega), dgt0]
      rw [ob_eq (l1NameOk hN _)]
      cases nmOk l[i] with
      | false => rfl
      | true =>
        cases h0 : i == 0 with
        | true => simp
        | false =>
          have h0' : 0 < i := by simp at h0; omega
          simp only [Bool.not_true, Bool.not_false, cond_true, cond_false, wrP (show i ≤ 1000000000000000000 by omega) h0', dge, dlt (show i - 1 < l.length by omega), gAt', Bool.false_or, Bool.true_and]
          cases Op.bytesLess (l.getD (i - 1) []) l[i] <;> rfl
    · unfold spec_l1NamesOk_0r
      rw [dnlt]; rfl
    · cases allI (fun i x => nmOk x && ascI l i x) 0 l <;> rfl
theorem implNames {N : Nat} (hN : lim < N) {l : List Txt} (hl : l.length ≤ lim) (most : Int) : impl_names N l most = some (nmsOk l most) := by
  have hlim := lim_eq
  unfold impl_names impl_namesb nmsOk
  cases hb : decide ((l.length : Int) > most) with
  | true => rfl
  | false =>
    refine (lp_allI l _ (fun i x => nmOk x && ascI l i x) (some false) (some true) (fun g i hi => ?_) (fun g => ?_) N (by omega)).trans ?_
    · unfold impl_names_0r ascI
      simp only [dlt hi, dge, gAt hi, cond_true, wrS (show i ≤ 1000000000000000000 by omega), dgt0]
      rw [ob_eq (implName hN _)]
      cases nmOk l[i] with
      | false => rfl
      | true =>
        cases h0 : i == 0 with
        | true => simp
        | false =>
          have h0' : 0 < i := by simp at h0; omega
          simp only [Bool.not_true, Bool.not_false, cond_true, cond_false, wrP (show i ≤ 1000000000000000000 by omega) h0', dge, dlt (show i - 1 < l.length by omega), gAt', Bool.false_or, Bool.true_and]
          cases Op.bytesLess (l.getD (i - 1) []) l[i] <;> rfl
    · unfold impl_names_0r
      rw [dnlt]; rfl
    · cases allI (fun i x => nmOk x && ascI l i x) 0 l <;> rfl

/-! Lists of names -/
theorem l1Has {N : Nat} (hN : lim < N) {l : List Txt} (hl : l.length ≤ lim) (s : Txt) : spec_l1Has N l s = some (l.contains s) := by
  have hlim := lim_eq
  unfold spec_l1Has spec_l1Hasb
  refine (lp_allI l _ (fun _ x => !(x == s)) (some true) (some false) (fun g i hi => ?_) (fun g => ?_) N (by omega)).trans ?_
  · unfold spec_l1Has_0r
    simp only [dlt hi, dge, gAt hi, cond_true, wrS (show i ≤ 1000000000000000000 by omega)]
    cases l[i] == s <;> rfl
  · unfold spec_l1Has_0r
    rw [dnlt]; rfl
  · rw [allI_all, List.contains_eq_any_beq]
    have : l.all (fun x => !(x == s)) = !(l.any fun a => s == a) := by
      rw [List.not_any_eq_all_not]
      congr 1; funext x
      rw [Bool.beq_comm]
    rw [this]
    cases l.any fun a => s == a <;> rfl
theorem l1Share {N : Nat} (hN : lim < N) {a b : List Txt} (ha : a.length ≤ lim) (hb : b.length ≤ lim) : spec_l1Share N a b = some (a.any fun x => b.contains x) := by
  have hlim := lim_eq
  unfold spec_l1Share spec_l1Shareb
  refine (lp_allI a _ (fun _ x => !(b.contains x)) (some true) (some false) (fun g i hi => ?_) (fun g => ?_) N (by omega)).trans ?_
  · unfold spec_l1Share_0r
    simp only [dlt hi, dge, gAt hi, cond_true, wrS (show i ≤ 1000000000000000000 by omega)]
    rw [ob_eq (l1Has hN hb _)]
    cases b.contains a[i] <;> rfl
  · unfold spec_l1Share_0r
    rw [dnlt]; rfl
  · rw [allI_all]
    have : a.all (fun x => !(b.contains x)) = !(a.any fun x => b.contains x) := by rw [List.not_any_eq_all_not]
    rw [this]
    cases a.any fun x => b.contains x <;> rfl

/-- Where it first stands, -1 if nowhere. -/
def idxB {α : Type} (p : α → Bool) : Nat → List α → Int
  | _, [] => -1
  | i, x :: xs => bif p x then (i : Int) else idxB p (i + 1) xs
theorem idxB_nonneg {α : Type} (p : α → Bool) : ∀ (l : List α) (i : Nat), decide (idxB p i l ≥ 0) = l.any p
  | [], _ => rfl
  | x :: xs, i => by
    simp only [idxB, List.any_cons]
    by_cases h : p x = true
    · simp [h]
    · simpa [h] using idxB_nonneg p xs (i + 1)
/-- A loop that looks for the first that fits. -/
theorem lp_idx {α : Type} (l : List α) (rd : (Int → Option Int) → Int → Option Int) (p : α → Bool)
    (hstep : ∀ (g : Int → Option Int) (i : Nat) (h : i < l.length), rd g (i : Int) = bif p l[i] then some (i : Int) else g ((i + 1 : Nat) : Int))
    (hend : ∀ (g : Int → Option Int), rd g (l.length : Int) = some (-1)) (N : Nat) (hN : l.length < N) : lp (fun _ => none) rd N 0 = some (idxB p 0 l) := by
  have := lp_walk l (fun (g : Int → Option Int) i (_ : Unit) => g (i : Int)) (fun _ => none) rd (fun i _ x => bif p x then .inr (some (i : Int)) else .inl ()) (fun _ => some (-1)) (fun _ _ => True)
    (fun g i st h _ => ⟨by
      rw [hstep g i h]
      cases p l[i] <;> rfl, fun _ _ => trivial⟩) (fun g _ _ => hend g) N hN () trivial
  refine this.trans ?_
  have : ∀ (l : List α) i, outW (fun _ => some (-1)) (walkL (fun i (_ : Unit) x => bif p x then Sum.inr (some (i : Int)) else Sum.inl ()) i l ()) = some (idxB p i l) := by
    intro l
    induction l with
    | nil => intro i; rfl
    | cons x xs ih =>
      intro i
      simp only [walkL, idxB]
      cases p x with
      | false => simpa using ih (i + 1)
      | true => rfl
  exact this l 0
theorem slicesIndex {N : Nat} (hN : lim < N) {l : List Txt} (hl : l.length ≤ lim) (s : Txt) : slices_Index_string N l s = some (idxB (fun x => s == x) 0 l) := by
  have hlim := lim_eq
  unfold slices_Index_string slices_Index_stringb
  refine lp_idx l _ (fun x => s == x) (fun g i hi => ?_) (fun g => ?_) N (by omega)
  · unfold slices_Index_string_0r
    simp only [dlt hi, dge, gAt hi, cond_true, wrS (show i ≤ 1000000000000000000 by omega)]
  · unfold slices_Index_string_0r
    rw [dnlt]; rfl
theorem slicesContains {N : Nat} (hN : lim < N) {l : List Txt} (hl : l.length ≤ lim) (s : Txt) : slices_Contains_string N l s = some (l.contains s) := by
  unfold slices_Contains_string
  rw [ob_eq (slicesIndex hN hl s), idxB_nonneg, List.contains_eq_any_beq]

/-- The same with what a function value has caught. -/
theorem lp_idxC {α γ : Type} (l : List α) (rd : (Int → γ → Option (Int × γ)) → Int → γ → Option (Int × γ)) (p : α → Bool) (c : γ)
    (hstep : ∀ (g : Int → γ → Option (Int × γ)) (i : Nat) (h : i < l.length), rd g (i : Int) c = bif p l[i] then some ((i : Int), c) else g ((i + 1 : Nat) : Int) c)
    (hend : ∀ (g : Int → γ → Option (Int × γ)), rd g (l.length : Int) c = some (-1, c)) (N : Nat) (hN : l.length < N) : lp (fun _ _ => none) rd N 0 c = some (idxB p 0 l, c) := by
  have := lp_walk l (fun (g : Int → γ → Option (Int × γ)) i (d : γ) => g (i : Int) d) (fun _ _ => none) rd (fun i d x => bif p x then .inr (some ((i : Int), d)) else .inl d) (fun d => some (-1, d)) (fun _ d => d = c)
    (fun g i st h hi => ⟨by
      subst hi
      rw [hstep g i h]
      cases p l[i] <;> rfl, fun st' hs => by
      subst hi
      cases hp : p l[i] with
      | true => rw [hp] at hs; cases hs
      | false => rw [hp] at hs; cases hs; rfl⟩) (fun g d hd => by subst hd; exact hend g) N hN c rfl
  refine this.trans ?_
  have : ∀ (l : List α) i, outW (fun d => some (-1, d)) (walkL (fun i (d : γ) x => bif p x then Sum.inr (some ((i : Int), d)) else Sum.inl d) i l c) = some (idxB p i l, c) := by
    intro l
    induction l with
    | nil => intro i; rfl
    | cons x xs ih =>
      intro i
      simp only [walkL, idxB]
      cases p x with
      | false => simpa using ih (i + 1)
      | true => rfl
  exact this l 0
theorem implCommon {N : Nat} (hN : lim < N) {a b : List Txt} (ha : a.length ≤ lim) (hb : b.length ≤ lim) : impl_common N a b = some (a.any fun x => b.contains x) := by
  have hlim := lim_eq
  unfold impl_common slices_ContainsFunc_string__impl_common_c1
  have h : slices_IndexFunc_string__impl_common_c1 N a b = some (idxB (fun x => b.contains x) 0 a, b) := by
    unfold slices_IndexFunc_string__impl_common_c1 slices_IndexFunc_string__impl_common_c1b
    refine lp_idxC a _ (fun x => b.contains x) b (fun g i hi => ?_) (fun g => ?_) N (by omega)
    · unfold slices_IndexFunc_string__impl_common_c1_0r
      simp only [dlt hi, dge, gAt hi, cond_true, wrS (show i ≤ 1000000000000000000 by omega)]
      have h1 : impl_common_c1 N a[i] b = some (b.contains a[i], b) := by
        unfold impl_common_c1
        rw [ob_eq (slicesContains hN hb _)]
      rw [ob_eq h1]
    · unfold slices_IndexFunc_string__impl_common_c1_0r
      rw [dnlt]; rfl
  rw [ob_eq (a := (a.any fun x => b.contains x, b)) (by rw [ob_eq h, idxB_nonneg])]
end Go.MC

/- ClaimWantOk: the document's and the program's tell the same. -/
set_option linter.unusedVariables false
set_option linter.unusedSimpArgs false
namespace Go.MC
open Go.MC.F

theorem wr3 {a b c : Nat} (ha : a ≤ 1048576) (hb : b ≤ 1048576) (hc : c ≤ 1048576) : IntKind.i64.wrap (IntKind.i64.wrap ((a : Int) + (b : Int)) + (c : Int)) = (a : Int) + (b : Int) + (c : Int) := by
  rw [wr (n := (a : Int) + (b : Int)) (by omega) (by omega), wr (by omega) (by omega)]

theorem dpz (n : Nat) : decide ((n : Int) > 0) = !decide (n = 0) := by cases n <;> simp
theorem dpn (n : Nat) : decide ((n : Int) > 0) = decide (n ≠ 0) := by cases n <;> simp
theorem dsum {a b c : Nat} : ((a : Int) + (b : Int) + (c : Int) == 0) = !decide (a + b + c ≠ 0) := by
  by_cases h : a + b + c = 0
  · rw [decide_eq_false (by omega)]
    exact beq_iff_eq.2 (by omega)
  · rw [decide_eq_true h]
    exact beq_eq_false_iff_ne.2 (by omega)
theorem dsum' {a b c : Nat} : decide ((a : Int) + (b : Int) + (c : Int) > 0) = decide (a + b + c ≠ 0) := by
  by_cases h : a + b + c = 0
  · rw [decide_eq_false (by omega), decide_eq_false (by omega)]
  · rw [decide_eq_true (by omega), decide_eq_true h]

def useOk (w : Want) (i : Nat) (u : Use) : Bool :=
  nmOk u.1 && ((i == 0 || Op.bytesLess (w.2.2.2.1.getD (i - 1) dUse).1 u.1) && (inB u.2.1 1 3 && (bif u.2.1 == 3 then u.2.2 == 0 else (w.2.1 == 1) && inB u.2.2 1 1000)))
def usesOk (w : Want) : Bool := !decide ((w.2.2.2.1.length : Int) > 8) && allI (useOk w) 0 w.2.2.2.1
/-- A want is ok. -/
def wantOk (w : Want) : Bool :=
  inB w.1 1 1000000 && (inB w.2.1 1 3 && (usesOk w && (nmsOk w.2.2.2.2.1 12 && (nmsOk w.2.2.2.2.2 12 && (!(w.2.2.2.2.1.any fun x => w.2.2.2.2.2.contains x) &&
    (decide (w.2.2.2.1.length + w.2.2.2.2.1.length + w.2.2.2.2.2.length ≠ 0) && (((w.2.1 == 1) || decide (w.2.2.2.2.1.length = 0)) && (nmsOk w.2.2.1 8 && ((w.2.1 == 1) == decide (w.2.2.1.length ≠ 0))))))))))

theorem l1UsesOk {N : Nat} (hN : lim < N) (w : Want) : spec_l1UsesOk N w = some (usesOk w) := by
  have hlim := lim_eq
  unfold spec_l1UsesOk spec_l1UsesOkb usesOk
  cases hb : decide ((w.2.2.2.1.length : Int) > 8) with
  | true => rfl
  | false =>
    have hl : w.2.2.2.1.length ≤ 8 := by have := of_decide_eq_false hb; omega
    refine (lp_allI w.2.2.2.1 _ (useOk w) (some false) (some true) (fun g i hi => ?_) (fun g => ?_) N (by omega)).trans ?_
    · unfold spec_l1UsesOk_0r useOk
      simp only [dlt hi, dge, gAt hi, cond_true, wrS (show i ≤ 1000000000000000000 by omega), dgt0]
      rw [ob_eq (l1NameOk hN _)]
      cases nmOk w.2.2.2.1[i].1 with
      | false => rfl
      | true =>
        have key : (ob (spec_l1In N w.2.2.2.1[i].2.1 1 3) false fun r => bif !r then some false else bif w.2.2.2.1[i].2.1 == 3 then bif w.2.2.2.1[i].2.2 != 0 then some false else bif w.2.2.2.1[i].2.1 != 3 then bif w.2.1 != 1 then some false else ob (spec_l1In N w.2.2.2.1[i].2.2 1 1000) false fun r => bif !r then some false else g ((i + 1 : Nat) : Int) else g ((i + 1 : Nat) : Int)
            else bif w.2.2.2.1[i].2.1 != 3 then bif w.2.1 != 1 then some false else ob (spec_l1In N w.2.2.2.1[i].2.2 1 1000) false fun r => bif !r then some false else g ((i + 1 : Nat) : Int) else g ((i + 1 : Nat) : Int)) =
            bif (inB w.2.2.2.1[i].2.1 1 3 && (bif w.2.2.2.1[i].2.1 == 3 then w.2.2.2.1[i].2.2 == 0 else (w.2.1 == 1) && inB w.2.2.2.1[i].2.2 1 1000)) then g ((i + 1 : Nat) : Int) else some false := by
          rw [ob_eq (l1In _ _ _)]
          simp only [ob_eq (l1In w.2.2.2.1[i].2.2 1 1000), bne]
          cases inB w.2.2.2.1[i].2.1 1 3 <;> cases (w.2.2.2.1[i].2.1 == 3) <;> cases (w.2.2.2.1[i].2.2 == 0) <;> cases (w.2.1 == 1) <;> cases inB w.2.2.2.1[i].2.2 1 1000 <;> rfl
        cases h0 : i == 0 with
        | true =>
          simp only [Bool.not_true, cond_false, Bool.true_or, Bool.true_and]
          exact key
        | false =>
          have h0' : 0 < i := by simp at h0; omega
          simp only [Bool.not_true, Bool.not_false, cond_true, cond_false, wrP (show i ≤ 1000000000000000000 by omega) h0', dge, dlt (show i - 1 < w.2.2.2.1.length by omega), gAt', Bool.false_or, Bool.true_and]
          cases Op.bytesLess (w.2.2.2.1.getD (i - 1) dUse).1 w.2.2.2.1[i].1 with
          | false => rfl
          | true => exact key
    · unfold spec_l1UsesOk_0r
      rw [dnlt]; rfl
    · cases allI (useOk w) 0 w.2.2.2.1 <;> rfl

theorem specWantOk {N : Nat} (hN : lim < N) {w : Want} (h : smW w) : spec_ClaimWantOk N w = some (wantOk w) := by
  have hlim := lim_eq
  obtain ⟨h1, h2, h3, h4⟩ := h
  have l1 := h1.1
  have l2 := h2.1
  have l3 := h3.1
  have l4 := h4.1
  unfold spec_ClaimWantOk wantOk
  rw [wr3 l2 l3 l4]
  rw [ob_eq (l1In _ _ _)]
  simp only [ob_eq (l1In w.2.1 1 3), ob_eq (l1UsesOk hN w), ob_eq (l1NamesOk hN (show w.2.2.2.2.1.length ≤ lim by omega) 12), ob_eq (l1NamesOk hN (show w.2.2.2.2.2.length ≤ lim by omega) 12), ob_eq (l1Share hN (show w.2.2.2.2.1.length ≤ lim by omega) (show w.2.2.2.2.2.length ≤ lim by omega)), ob_eq (l1NamesOk hN (show w.2.2.1.length ≤ lim by omega) 8), bne]
  rw [dsum]
  rw [dpz w.2.2.2.2.1.length]
  rw [dpn w.2.2.1.length]
  generalize inB w.1 1 1000000 = x0
  generalize inB w.2.1 1 3 = x1
  generalize usesOk w = x2
  generalize nmsOk w.2.2.2.2.1 12 = x3
  generalize nmsOk w.2.2.2.2.2 12 = x4
  generalize (w.2.2.2.2.1.any fun x => w.2.2.2.2.2.contains x) = x5
  generalize decide (w.2.2.2.1.length + w.2.2.2.2.1.length + w.2.2.2.2.2.length ≠ 0) = x6
  generalize (w.2.1 == 1) = x7
  generalize decide (w.2.2.2.2.1.length = 0) = x8
  generalize nmsOk w.2.2.1 8 = x9
  generalize decide (w.2.2.1.length ≠ 0) = x10
  revert x0 x1 x2 x3 x4 x5 x6 x7 x8 x9 x10
  decide +kernel


theorem implWantOk {N : Nat} (hN : lim < N) {w : Want} (h : smW w) : impl_ClaimWantOk N w = some (wantOk w) := by
  have hlim := lim_eq
  obtain ⟨h1, h2, h3, h4⟩ := h
  have l1 := h1.1
  have l2 := h2.1
  have l3 := h3.1
  have l4 := h4.1
  unfold impl_ClaimWantOk impl_ClaimWantOkb
  rw [ob_eq (implIn _ _ _)]
  simp only [ob_eq (implIn w.2.1 1 3), ob_eq (implNames hN (show w.2.2.1.length ≤ lim by omega) 8)]
  have loop : impl_ClaimWantOk_0 N w (w.2.1 == 1) (w.2.2.2.1.length : Int) N 0 = bif allI (useOk w) 0 w.2.2.2.1 then (impl_ClaimWantOk_0r N w (w.2.1 == 1) (w.2.2.2.1.length : Int) (fun _ => none) (w.2.2.2.1.length : Int)) else some false := by
    refine lp_allI w.2.2.2.1 _ (useOk w) (some false) _ (fun g i hi => ?_) (fun g => ?_) N (by omega)
    · unfold impl_ClaimWantOk_0r useOk
      simp only [dlt hi, dge, gAt hi, cond_true, wrS (show i ≤ 1000000000000000000 by omega), dgt0]
      rw [ob_eq (implName hN _)]
      cases nmOk w.2.2.2.1[i].1 with
      | false => rfl
      | true =>
        have key : (ob (impl_in N w.2.2.2.1[i].2.1 1 3) false fun r => bif !r then some false else bif w.2.2.2.1[i].2.1 == 3 then bif w.2.2.2.1[i].2.2 != 0 then some false else g ((i + 1 : Nat) : Int)
            else bif !(w.2.1 == 1) then some false else ob (impl_in N w.2.2.2.1[i].2.2 1 1000) false fun r => bif !r then some false else g ((i + 1 : Nat) : Int)) =
            bif (inB w.2.2.2.1[i].2.1 1 3 && (bif w.2.2.2.1[i].2.1 == 3 then w.2.2.2.1[i].2.2 == 0 else (w.2.1 == 1) && inB w.2.2.2.1[i].2.2 1 1000)) then g ((i + 1 : Nat) : Int) else some false := by
          rw [ob_eq (implIn _ _ _)]
          simp only [ob_eq (implIn w.2.2.2.1[i].2.2 1 1000), bne]
          cases inB w.2.2.2.1[i].2.1 1 3 <;> cases (w.2.2.2.1[i].2.1 == 3) <;> cases (w.2.2.2.1[i].2.2 == 0) <;> cases (w.2.1 == 1) <;> cases inB w.2.2.2.1[i].2.2 1 1000 <;> rfl
        cases h0 : i == 0 with
        | true =>
          simp only [Bool.not_true, cond_false, Bool.true_or, Bool.true_and]
          exact key
        | false =>
          have h0' : 0 < i := by simp at h0; omega
          simp only [Bool.not_true, Bool.not_false, cond_true, cond_false, wrP (show i ≤ 1000000000000000000 by omega) h0', dge, dlt (show i - 1 < w.2.2.2.1.length by omega), gAt', Bool.false_or, Bool.true_and]
          cases Op.bytesLess (w.2.2.2.1.getD (i - 1) dUse).1 w.2.2.2.1[i].1 with
          | false => rfl
          | true => exact key
    · unfold impl_ClaimWantOk_0r
      rw [dnlt]; rfl
  rw [loop]
  unfold impl_ClaimWantOk_0r wantOk usesOk
  rw [dnlt, cond_false, wr3 l2 l3 l4]
  rw [ob_eq (implNames hN (show w.2.2.2.2.1.length ≤ lim by omega) 12)]
  simp only [ob_eq (implNames hN (show w.2.2.2.2.2.length ≤ lim by omega) 12), ob_eq (implCommon hN (show w.2.2.2.2.1.length ≤ lim by omega) (show w.2.2.2.2.2.length ≤ lim by omega))]
  rw [dsum']
  rw [dpz w.2.2.2.2.1.length]
  rw [dpn w.2.2.1.length]
  generalize inB w.1 1 1000000 = x0
  generalize inB w.2.1 1 3 = x1
  generalize nmsOk w.2.2.1 8 = x2
  generalize (w.2.1 == 1) = x3
  generalize decide (w.2.2.1.length ≠ 0) = x4
  generalize decide ((w.2.2.2.1.length : Int) > 8) = x5
  generalize allI (useOk w) 0 w.2.2.2.1 = x6
  generalize nmsOk w.2.2.2.2.1 12 = x7
  generalize nmsOk w.2.2.2.2.2 12 = x8
  generalize (w.2.2.2.2.1.any fun x => w.2.2.2.2.2.contains x) = x9
  generalize decide (w.2.2.2.2.1.length = 0) = x10
  generalize decide (w.2.2.2.1.length + w.2.2.2.2.1.length + w.2.2.2.2.2.length ≠ 0) = x11
  revert x0 x1 x2 x3 x4 x5 x6 x7 x8 x9 x10 x11
  decide +kernel


theorem fit_want {w : Want} (h : Fit tWant w) : fitW w := by
  obtain ⟨_, _, h1, h2, h3, h4⟩ := h
  exact ⟨h1, ⟨h2.1, fun u hu => (h2.2 u hu).1⟩, h3, h4⟩
end Go.MC

/- Sizes, copies and sameness of books. -/
set_option linter.unusedVariables false
set_option linter.unusedSimpArgs false
namespace Go.MC
open Go.MC.F

def smF (f : Foe) : Prop := smT f.1 ∧ smT f.2
def smS (s : Spot) : Prop := smT s.1 ∧ smL s.2.2.2.2
def smP (p : Part) : Prop := smW p.1
def smB (b : Book) : Prop := (b.1.length ≤ 1048576 ∧ ∀ f ∈ b.1, smF f) ∧ (b.2.1.length ≤ 1048576 ∧ ∀ s ∈ b.2.1, smS s) ∧ smL b.2.2.1 ∧ (b.2.2.2.1.length ≤ 1048576 ∧ ∀ p ∈ b.2.2.2.1, smP p)
def fitF (f : Foe) : Prop := f.1.length ≤ lim ∧ f.2.length ≤ lim
def fitS (s : Spot) : Prop := s.1.length ≤ lim ∧ (s.2.2.2.2.length ≤ lim ∧ ∀ x ∈ s.2.2.2.2, x.length ≤ lim)
def fitP (p : Part) : Prop := fitW p.1
def fitB (b : Book) : Prop := (b.1.length ≤ lim ∧ ∀ f ∈ b.1, fitF f) ∧ (b.2.1.length ≤ lim ∧ ∀ s ∈ b.2.1, fitS s) ∧ (b.2.2.1.length ≤ lim ∧ ∀ x ∈ b.2.2.1, x.length ≤ lim) ∧ (b.2.2.2.1.length ≤ lim ∧ ∀ p ∈ b.2.2.2.1, fitP p)
theorem fit_book {b : Book} (h : Fit tBook b) : fitB b := by
  obtain ⟨h1, h2, h3, h4, h5⟩ := h
  refine ⟨⟨h1.1, fun f hf => h1.2 f hf⟩, ⟨h2.1, fun s hs => ?_⟩, h3, h4.1, fun p hp => fit_want (h4.2 p hp).1⟩
  obtain ⟨a, _, _, _, e⟩ := h2.2 s hs
  exact ⟨a, e⟩

/-- A loop that counts down, element by element. -/
theorem sz_loopE {α : Type} (l : List α) (hl : l.length ≤ lim) (el : α → Int → Option Int) (P : α → Prop) (rd : (Int → Int → Option Int) → Int → Int → Option Int)
    (hel : ∀ x ∈ l, ∀ st : Int, 0 ≤ st → st ≤ 1048576 → ∃ r, el x st = some r ∧ r ≤ st ∧ -1 ≤ r ∧ (0 ≤ r → P x))
    (hstep : ∀ (g : Int → Int → Option Int) (i : Nat) (st : Int) (h : i < l.length), rd g st (i : Int) = ob (el l[i] st) (Int.ofNat 0) fun r => bif decide (r < 0) then some (-1) else g r ((i + 1 : Nat) : Int))
    (hend : ∀ (g : Int → Int → Option Int) (st : Int), rd g st (l.length : Int) = some st) (N : Nat) (hN : l.length < N) (left : Int) (h0 : 0 ≤ left) (h1 : left ≤ 1048576) :
    ∃ r, lp (fun _ _ => none) rd N left 0 = some r ∧ r ≤ left ∧ -1 ≤ r ∧ (0 ≤ r → ∀ x ∈ l, P x) := by
  refine sz_loop l hl (fun x st => (el x st).getD 0) P rd (fun x hx st h0 h1 => ?_) (fun g i st h h0 h1 => ?_) hend N hN left h0 h1
  · obtain ⟨r, h2, h3⟩ := hel x hx st h0 h1
    rw [h2]; exact h3
  · obtain ⟨r, h2, h3⟩ := hel _ (List.getElem_mem h) st h0 h1
    rw [hstep g i st h, ob_eq h2, h2]
    by_cases hn : r < 0
    · rw [decide_eq_true hn, if_pos (show (some r).getD 0 < 0 from hn)]; rfl
    · rw [decide_eq_false hn, if_neg (show ¬ (some r).getD 0 < 0 from hn)]; rfl

theorem szClaimFoe {N : Nat} {f : Foe} (hf : fitF f) {left : Int} (h0 : 0 ≤ left) (h1 : left ≤ 1048576) : ∃ r, laws_szClaimFoe N f left = some r ∧ r ≤ left ∧ -1 ≤ r ∧ (0 ≤ r → smF f) := by
  have hlim := lim_eq
  obtain ⟨a, b⟩ := hf
  unfold laws_szClaimFoe
  rw [wr (n := left - (f.1.length : Int)) (by omega) (by omega), wr (n := left - (f.1.length : Int) - (f.2.length : Int)) (by omega) (by omega)]
  by_cases hn : left - (f.1.length : Int) < 0
  · rw [decide_eq_true hn]
    exact ⟨-1, rfl, by omega, by omega, fun h => by omega⟩
  · rw [decide_eq_false hn]
    by_cases hn2 : left - (f.1.length : Int) - (f.2.length : Int) < 0
    · rw [decide_eq_true hn2]
      exact ⟨-1, rfl, by omega, by omega, fun h => by omega⟩
    · rw [decide_eq_false hn2]
      exact ⟨_, rfl, by omega, by omega, fun h => ⟨by unfold smT; omega, by unfold smT; omega⟩⟩
theorem szClaimSpot {N : Nat} (hN : lim < N) {s : Spot} (hs : fitS s) {left : Int} (h0 : 0 ≤ left) (h1 : left ≤ 1048576) : ∃ r, laws_szClaimSpot N s left = some r ∧ r ≤ left ∧ -1 ≤ r ∧ (0 ≤ r → smS s) := by
  have hlim := lim_eq
  obtain ⟨a, b, c⟩ := hs
  unfold laws_szClaimSpot
  rw [wr (n := left - (s.1.length : Int)) (by omega) (by omega)]
  by_cases hn : left - (s.1.length : Int) < 0
  · rw [decide_eq_true hn]
    exact ⟨-1, rfl, by omega, by omega, fun h => by omega⟩
  · rw [decide_eq_false hn]
    obtain ⟨r, h2, h3, h4, h5⟩ := szLast (szStringS hN b c (left := left - (s.1.length : Int)) (by omega) (by omega))
    exact ⟨r, h2, by omega, h4, fun h => ⟨by unfold smT; omega, h5 h⟩⟩
theorem szClaimPart {N : Nat} (hN : lim < N) {p : Part} (hp : fitP p) {left : Int} (h0 : 0 ≤ left) (h1 : left ≤ 1048576) : ∃ r, laws_szClaimPart N p left = some r ∧ r ≤ left ∧ -1 ≤ r ∧ (0 ≤ r → smP p) :=
  szLast (szClaimWant hN hp h0 h1)

theorem szClaimFoeS {N : Nat} (hN : lim < N) {a : List Foe} (ha : a.length ≤ lim) (hx : ∀ x ∈ a, fitF x) {left : Int} (h0 : 0 ≤ left) (h1 : left ≤ 1048576) :
    ∃ r, laws_szClaimFoeS N a left = some r ∧ r ≤ left ∧ -1 ≤ r ∧ (0 ≤ r → a.length ≤ 1048576 ∧ ∀ x ∈ a, smF x) := by
  have hlim := lim_eq
  unfold laws_szClaimFoeS laws_szClaimFoeSb
  rw [wr (n := left - a.length) (by omega) (by omega)]
  by_cases hneg : left - (a.length : Int) < 0
  · rw [decide_eq_true hneg]
    exact ⟨-1, rfl, by omega, by omega, fun h => by omega⟩
  · rw [decide_eq_false hneg]
    obtain ⟨r, h2, h3, h4, h5⟩ := sz_loopE a ha (laws_szClaimFoe N) (fun x => smF x) (laws_szClaimFoeS_0r N a) (fun x hm st h0 h1 => szClaimFoe (hx x hm) h0 h1) (fun g i st h => by
        unfold laws_szClaimFoeS_0r
        simp only [dlt h, dge, gAt h, cond_true, wrS (show i ≤ 1000000000000000000 by omega)]) (fun g st => by
        unfold laws_szClaimFoeS_0r
        rw [dnlt]; rfl) N (by omega) (left - a.length) (by omega) (by omega)
    exact ⟨r, h2, by omega, h4, fun h => ⟨by omega, h5 h⟩⟩

theorem szClaimSpotS {N : Nat} (hN : lim < N) {a : List Spot} (ha : a.length ≤ lim) (hx : ∀ x ∈ a, fitS x) {left : Int} (h0 : 0 ≤ left) (h1 : left ≤ 1048576) :
    ∃ r, laws_szClaimSpotS N a left = some r ∧ r ≤ left ∧ -1 ≤ r ∧ (0 ≤ r → a.length ≤ 1048576 ∧ ∀ x ∈ a, smS x) := by
  have hlim := lim_eq
  unfold laws_szClaimSpotS laws_szClaimSpotSb
  rw [wr (n := left - a.length) (by omega) (by omega)]
  by_cases hneg : left - (a.length : Int) < 0
  · rw [decide_eq_true hneg]
    exact ⟨-1, rfl, by omega, by omega, fun h => by omega⟩
  · rw [decide_eq_false hneg]
    obtain ⟨r, h2, h3, h4, h5⟩ := sz_loopE a ha (laws_szClaimSpot N) (fun x => smS x) (laws_szClaimSpotS_0r N a) (fun x hm st h0 h1 => szClaimSpot hN (hx x hm) h0 h1) (fun g i st h => by
        unfold laws_szClaimSpotS_0r
        simp only [dlt h, dge, gAt h, cond_true, wrS (show i ≤ 1000000000000000000 by omega)]) (fun g st => by
        unfold laws_szClaimSpotS_0r
        rw [dnlt]; rfl) N (by omega) (left - a.length) (by omega) (by omega)
    exact ⟨r, h2, by omega, h4, fun h => ⟨by omega, h5 h⟩⟩

theorem szClaimPartS {N : Nat} (hN : lim < N) {a : List Part} (ha : a.length ≤ lim) (hx : ∀ x ∈ a, fitP x) {left : Int} (h0 : 0 ≤ left) (h1 : left ≤ 1048576) :
    ∃ r, laws_szClaimPartS N a left = some r ∧ r ≤ left ∧ -1 ≤ r ∧ (0 ≤ r → a.length ≤ 1048576 ∧ ∀ x ∈ a, smP x) := by
  have hlim := lim_eq
  unfold laws_szClaimPartS laws_szClaimPartSb
  rw [wr (n := left - a.length) (by omega) (by omega)]
  by_cases hneg : left - (a.length : Int) < 0
  · rw [decide_eq_true hneg]
    exact ⟨-1, rfl, by omega, by omega, fun h => by omega⟩
  · rw [decide_eq_false hneg]
    obtain ⟨r, h2, h3, h4, h5⟩ := sz_loopE a ha (laws_szClaimPart N) (fun x => smP x) (laws_szClaimPartS_0r N a) (fun x hm st h0 h1 => szClaimPart hN (hx x hm) h0 h1) (fun g i st h => by
        unfold laws_szClaimPartS_0r
        simp only [dlt h, dge, gAt h, cond_true, wrS (show i ≤ 1000000000000000000 by omega)]) (fun g st => by
        unfold laws_szClaimPartS_0r
        rw [dnlt]; rfl) N (by omega) (left - a.length) (by omega) (by omega)
    exact ⟨r, h2, by omega, h4, fun h => ⟨by omega, h5 h⟩⟩

theorem szClaimBook {N : Nat} (hN : lim < N) {b : Book} (hb : fitB b) {left : Int} (h0 : 0 ≤ left) (h1 : left ≤ 1048576) : ∃ r, laws_szClaimBook N b left = some r ∧ r ≤ left ∧ -1 ≤ r ∧ (0 ≤ r → smB b) := by
  obtain ⟨⟨a1, a2⟩, ⟨b1, b2⟩, ⟨c1, c2⟩, ⟨d1, d2⟩⟩ := hb
  exact szNext h0 h1 (szClaimFoeS hN a1 a2 h0 h1) fun r h0 h1 => szNext h0 h1 (szClaimSpotS hN b1 b2 h0 h1) fun r h0 h1 => szNext h0 h1 (szStringS hN c1 c2 h0 h1) fun r h0 h1 => szLast (szClaimPartS hN d1 d2 h0 h1)

theorem toClaimSpot {N : Nat} (hN : lim < N) {s : Spot} (h : smS s) : laws_toClaimSpot N s = some s := by
  unfold laws_toClaimSpot
  rw [ob_eq (toStringS hN h.2.1)]
theorem toClaimPart {N : Nat} (hN : lim < N) {p : Part} (h : smP p) : laws_toClaimPart N p = some p := by
  unfold laws_toClaimPart
  rw [ob_eq (toClaimWant hN h)]
theorem toClaimFoe {N : Nat} (hN : lim < N) {f : Foe} (h : smF f) : laws_toClaimFoe N f = some f := rfl
theorem eqClaimFoe {N : Nat} (hN : lim < N) {f : Foe} (h : smF f) : laws_eqClaimFoe N f f = some true := by
  unfold laws_eqClaimFoe
  simp
theorem eqClaimSpot {N : Nat} (hN : lim < N) {s : Spot} (h : smS s) : laws_eqClaimSpot N s s = some true := by
  unfold laws_eqClaimSpot
  simp only [bne_self_eq_false, beq_self_eq_true, Bool.not_true, cond_false]
  rw [ob_eq (eqStringS hN h.2.1)]; rfl
theorem eqClaimPart {N : Nat} (hN : lim < N) {p : Part} (h : smP p) : laws_eqClaimPart N p p = some true := by
  unfold laws_eqClaimPart
  rw [ob_eq (eqClaimWant hN h)]
  simp

theorem toClaimFoeS {N : Nat} (hN : lim < N) {a : List Foe} (h : a.length ≤ 1048576) (hx : ∀ x ∈ a, smF x) : laws_toClaimFoeS N a = some a := by
  have hlim := lim_eq
  unfold laws_toClaimFoeS laws_toClaimFoeSb
  have h1 : (decide (((a.length : Nat) : Int).toNat * 32 ≤ lim) && (Nat.ble 1 32 && true)) = true := by
    rw [decide_eq_true (by rw [Int.toNat_natCast]; omega)]; rfl
  simp only [h1, cond_true, decide_true]
  refine (lp_set (l := a) (fun x => x) (fun f i out hi ho => ?_) (fun f out => ?_) (by omega) (by simp)).trans (by simp)
  · unfold laws_toClaimFoeS_0r
    simp only [dlt hi, dge, gAt hi, cond_true, wrS (show i ≤ 1000000000000000000 by omega), dlt (show i < out.length by omega)]
    rw [ob_eq (toClaimFoe hN (hx _ (List.getElem_mem hi)))]
    rfl
  · unfold laws_toClaimFoeS_0r
    rw [dnlt]; rfl
theorem eqClaimFoeS {N : Nat} (hN : lim < N) {a : List Foe} (h : a.length ≤ 1048576) (hx : ∀ x ∈ a, smF x) : laws_eqClaimFoeS N a a = some true := by
  have hlim := lim_eq
  unfold laws_eqClaimFoeS laws_eqClaimFoeSb
  simp only [bne_self_eq_false, cond_false]
  refine (lp_allI a _ (fun _ _ => true) (some false) (some true) (fun g i hi => ?_) (fun g => ?_) N (by omega)).trans ?_
  · unfold laws_eqClaimFoeS_0r
    simp only [dlt hi, dge, gAt hi, cond_true, wrS (show i ≤ 1000000000000000000 by omega)]
    rw [ob_eq (eqClaimFoe hN (hx _ (List.getElem_mem hi)))]; rfl
  · unfold laws_eqClaimFoeS_0r
    rw [dnlt]; rfl
  · rw [show allI (fun _ (_ : Foe) => true) 0 a = true from allI_iff.2 fun _ _ _ => rfl]; rfl

theorem toClaimSpotS {N : Nat} (hN : lim < N) {a : List Spot} (h : a.length ≤ 1048576) (hx : ∀ x ∈ a, smS x) : laws_toClaimSpotS N a = some a := by
  have hlim := lim_eq
  unfold laws_toClaimSpotS laws_toClaimSpotSb
  have h1 : (decide (((a.length : Nat) : Int).toNat * 64 ≤ lim) && (Nat.ble 1 64 && true)) = true := by
    rw [decide_eq_true (by rw [Int.toNat_natCast]; omega)]; rfl
  simp only [h1, cond_true, decide_true]
  refine (lp_set (l := a) (fun x => x) (fun f i out hi ho => ?_) (fun f out => ?_) (by omega) (by simp)).trans (by simp)
  · unfold laws_toClaimSpotS_0r
    simp only [dlt hi, dge, gAt hi, cond_true, wrS (show i ≤ 1000000000000000000 by omega), dlt (show i < out.length by omega)]
    rw [ob_eq (toClaimSpot hN (hx _ (List.getElem_mem hi)))]
    rfl
  · unfold laws_toClaimSpotS_0r
    rw [dnlt]; rfl
theorem eqClaimSpotS {N : Nat} (hN : lim < N) {a : List Spot} (h : a.length ≤ 1048576) (hx : ∀ x ∈ a, smS x) : laws_eqClaimSpotS N a a = some true := by
  have hlim := lim_eq
  unfold laws_eqClaimSpotS laws_eqClaimSpotSb
  simp only [bne_self_eq_false, cond_false]
  refine (lp_allI a _ (fun _ _ => true) (some false) (some true) (fun g i hi => ?_) (fun g => ?_) N (by omega)).trans ?_
  · unfold laws_eqClaimSpotS_0r
    simp only [dlt hi, dge, gAt hi, cond_true, wrS (show i ≤ 1000000000000000000 by omega)]
    rw [ob_eq (eqClaimSpot hN (hx _ (List.getElem_mem hi)))]; rfl
  · unfold laws_eqClaimSpotS_0r
    rw [dnlt]; rfl
  · rw [show allI (fun _ (_ : Spot) => true) 0 a = true from allI_iff.2 fun _ _ _ => rfl]; rfl

theorem toClaimPartS {N : Nat} (hN : lim < N) {a : List Part} (h : a.length ≤ 1048576) (hx : ∀ x ∈ a, smP x) : laws_toClaimPartS N a = some a := by
  have hlim := lim_eq
  unfold laws_toClaimPartS laws_toClaimPartSb
  have h1 : (decide (((a.length : Nat) : Int).toNat * 120 ≤ lim) && (Nat.ble 1 120 && true)) = true := by
    rw [decide_eq_true (by rw [Int.toNat_natCast]; omega)]; rfl
  simp only [h1, cond_true, decide_true]
  refine (lp_set (l := a) (fun x => x) (fun f i out hi ho => ?_) (fun f out => ?_) (by omega) (by simp)).trans (by simp)
  · unfold laws_toClaimPartS_0r
    simp only [dlt hi, dge, gAt hi, cond_true, wrS (show i ≤ 1000000000000000000 by omega), dlt (show i < out.length by omega)]
    rw [ob_eq (toClaimPart hN (hx _ (List.getElem_mem hi)))]
    rfl
  · unfold laws_toClaimPartS_0r
    rw [dnlt]; rfl
theorem eqClaimPartS {N : Nat} (hN : lim < N) {a : List Part} (h : a.length ≤ 1048576) (hx : ∀ x ∈ a, smP x) : laws_eqClaimPartS N a a = some true := by
  have hlim := lim_eq
  unfold laws_eqClaimPartS laws_eqClaimPartSb
  simp only [bne_self_eq_false, cond_false]
  refine (lp_allI a _ (fun _ _ => true) (some false) (some true) (fun g i hi => ?_) (fun g => ?_) N (by omega)).trans ?_
  · unfold laws_eqClaimPartS_0r
    simp only [dlt hi, dge, gAt hi, cond_true, wrS (show i ≤ 1000000000000000000 by omega)]
    rw [ob_eq (eqClaimPart hN (hx _ (List.getElem_mem hi)))]; rfl
  · unfold laws_eqClaimPartS_0r
    rw [dnlt]; rfl
  · rw [show allI (fun _ (_ : Part) => true) 0 a = true from allI_iff.2 fun _ _ _ => rfl]; rfl

theorem toClaimBook {N : Nat} (hN : lim < N) {b : Book} (h : smB b) : laws_toClaimBook N b = some b := by
  obtain ⟨h1, h2, h3, h4⟩ := h
  unfold laws_toClaimBook
  rw [ob_eq (toClaimFoeS hN h1.1 h1.2), ob_eq (toClaimSpotS hN h2.1 h2.2), ob_eq (toStringS hN h3.1), ob_eq (toClaimPartS hN h4.1 h4.2)]
theorem eqClaimBook {N : Nat} (hN : lim < N) {b : Book} (h : smB b) : laws_eqClaimBook N b b = some true := by
  obtain ⟨h1, h2, h3, h4⟩ := h
  unfold laws_eqClaimBook
  rw [ob_eq (eqClaimFoeS hN h1.1 h1.2)]
  simp only [Bool.not_true, cond_false]
  rw [ob_eq (eqClaimSpotS hN h2.1 h2.2)]
  simp only [Bool.not_true, cond_false]
  rw [ob_eq (eqStringS hN h3.1)]
  simp only [Bool.not_true, cond_false]
  rw [ob_eq (eqClaimPartS hN h4.1 h4.2)]
  simp only [Bool.not_true, cond_false, bne_self_eq_false]
end Go.MC

/- ClaimBookOk: the document's and the program's tell the same. -/
set_option linter.unusedVariables false
set_option linter.unusedSimpArgs false
namespace Go.MC
open Go.MC.F

theorem less_irrefl : ∀ l : Txt, Op.bytesLess l l = false
  | [] => rfl
  | a :: x => by
    have : ¬ a < a := UInt8.lt_irrefl a
    simp [Op.bytesLess, this, less_irrefl x]

theorem not_any {α : Type} (l : List α) (p : α → Bool) : l.all (fun x => !p x) = !l.any p := by rw [List.not_any_eq_all_not]
theorem not_all {α : Type} (l : List α) (p : α → Bool) : l.any (fun x => !p x) = !l.all p := by rw [List.not_all_eq_any_not]

/-! Foes -/
def isFoe (b : Book) (x y : Txt) : Bool := b.1.any fun f => (f.1 == x && f.2 == y) || (f.1 == y && f.2 == x)
def clash (b : Book) (x y : List Txt) : Bool := b.1.any fun f => (x.contains f.1 && y.contains f.2) || (x.contains f.2 && y.contains f.1)
theorem clash_eq (b : Book) (x y : List Txt) : clash b x y = x.any fun u => y.any fun v => isFoe b u v := by
  rw [Bool.eq_iff_iff]
  simp only [clash, isFoe, List.any_eq_true, Bool.or_eq_true, Bool.and_eq_true, List.contains_iff_mem, beq_iff_eq]
  constructor
  · rintro ⟨f, hf, ⟨h1, h2⟩ | ⟨h1, h2⟩⟩
    · exact ⟨f.1, h1, f.2, h2, f, hf, .inl ⟨rfl, rfl⟩⟩
    · exact ⟨f.2, h1, f.1, h2, f, hf, .inr ⟨rfl, rfl⟩⟩
  · rintro ⟨u, hu, v, hv, f, hf, ⟨rfl, rfl⟩ | ⟨rfl, rfl⟩⟩
    · exact ⟨f, hf, .inl ⟨hu, hv⟩⟩
    · exact ⟨f, hf, .inr ⟨hu, hv⟩⟩

theorem l2Foes {N : Nat} (hN : lim < N) {b : Book} (hb : b.1.length ≤ 1048576) (x y : Txt) : spec_l2Foes N b x y = some (isFoe b x y) := by
  have hlim := lim_eq
  unfold spec_l2Foes spec_l2Foesb
  refine (lp_allI b.1 _ (fun _ f => !((f.1 == x && f.2 == y) || (f.1 == y && f.2 == x))) (some true) (some false) (fun g i hi => ?_) (fun g => ?_) N (by omega)).trans ?_
  · unfold spec_l2Foes_0r
    simp only [dlt hi, dge, gAt hi, cond_true, wrS (show i ≤ 1000000000000000000 by omega)]
    generalize (b.1[i].1 == x) = a1
    generalize (b.1[i].2 == y) = a2
    generalize (b.1[i].1 == y) = a3
    generalize (b.1[i].2 == x) = a4
    cases a1 <;> cases a2 <;> cases a3 <;> cases a4 <;> rfl
  · unfold spec_l2Foes_0r
    rw [dnlt]; rfl
  · rw [allI_all, not_any]
    unfold isFoe
    cases b.1.any fun f => (f.1 == x && f.2 == y) || (f.1 == y && f.2 == x) <;> rfl
theorem l2Clash {N : Nat} (hN : lim < N) {b : Book} (hb : b.1.length ≤ 1048576) (x : Txt) {may : List Txt} (hm : may.length ≤ 1048576) : spec_l2Clash N b x may = some (may.any fun v => isFoe b x v) := by
  have hlim := lim_eq
  unfold spec_l2Clash spec_l2Clashb
  refine (lp_allI may _ (fun _ v => !(isFoe b x v)) (some true) (some false) (fun g i hi => ?_) (fun g => ?_) N (by omega)).trans ?_
  · unfold spec_l2Clash_0r
    simp only [dlt hi, dge, gAt hi, cond_true, wrS (show i ≤ 1000000000000000000 by omega)]
    rw [ob_eq (l2Foes hN hb _ _)]
    cases isFoe b x may[i] <;> rfl
  · unfold spec_l2Clash_0r
    rw [dnlt]; rfl
  · rw [allI_all, not_any]
    cases may.any fun v => isFoe b x v <;> rfl
theorem implFoes {N : Nat} (hN : lim < N) {b : Book} (hb : b.1.length ≤ 1048576) {x y : List Txt} (hx : x.length ≤ 1048576) (hy : y.length ≤ 1048576) : impl_ClaimBook_foes N b x y = some (clash b x y) := by
  have hlim := lim_eq
  unfold impl_ClaimBook_foes impl_ClaimBook_foesb
  refine (lp_allI b.1 _ (fun _ f => !((x.contains f.1 && y.contains f.2) || (x.contains f.2 && y.contains f.1))) (some true) (some false) (fun g i hi => ?_) (fun g => ?_) N (by omega)).trans ?_
  · unfold impl_ClaimBook_foes_0r
    simp only [dlt hi, dge, gAt hi, cond_true, wrS (show i ≤ 1000000000000000000 by omega)]
    simp only [ob_eq (slicesContains hN (show x.length ≤ lim by omega) _), ob_eq (slicesContains hN (show y.length ≤ lim by omega) _)]
    generalize x.contains b.1[i].1 = a1
    generalize y.contains b.1[i].2 = a2
    generalize x.contains b.1[i].2 = a3
    generalize y.contains b.1[i].1 = a4
    cases a1 <;> cases a2 <;> cases a3 <;> cases a4 <;> rfl
  · unfold impl_ClaimBook_foes_0r
    rw [dnlt]; rfl
  · rw [allI_all, not_any]
    unfold clash
    cases b.1.any fun f => (x.contains f.1 && y.contains f.2) || (x.contains f.2 && y.contains f.1) <;> rfl

def ahead (f g : Foe) : Bool := Op.bytesLess f.1 g.1 || (f.1 == g.1 && Op.bytesLess f.2 g.2)
def foeOk (b : Book) (i : Nat) (f : Foe) : Bool := nmOk f.1 && (nmOk f.2 && (Op.bytesLess f.1 f.2 && (i == 0 || ahead (b.1.getD (i - 1) dFoe) f)))
def foesOk (b : Book) : Bool := !decide ((b.1.length : Int) > 12) && allI (foeOk b) 0 b.1
theorem implAhead {N : Nat} (f g : Foe) : impl_ClaimFoe_ahead N f g = some (ahead f g) := by
  unfold impl_ClaimFoe_ahead ahead
  cases Op.bytesLess f.1 g.1 <;> cases (f.1 == g.1) <;> rfl
theorem l2FoesOk {N : Nat} (hN : lim < N) (b : Book) : spec_l2FoesOk N b = some (foesOk b) := by
  have hlim := lim_eq
  unfold spec_l2FoesOk spec_l2FoesOkb foesOk
  cases hb : decide ((b.1.length : Int) > 12) with
  | true => rfl
  | false =>
    have hl : b.1.length ≤ 12 := by have := of_decide_eq_false hb; omega
    refine (lp_allI b.1 _ (foeOk b) (some false) (some true) (fun g i hi => ?_) (fun g => ?_) N (by omega)).trans ?_
    · unfold spec_l2FoesOk_0r foeOk
      simp only [dlt hi, dge, gAt hi, cond_true, wrS (show i ≤ 1000000000000000000 by omega), dgt0]
      rw [ob_eq (l1NameOk hN _)]
      simp only [ob_eq (l1NameOk hN b.1[i].2)]
      cases nmOk b.1[i].1 with
      | false => rfl
      | true =>
        cases nmOk b.1[i].2 with
        | false => rfl
        | true =>
          cases Op.bytesLess b.1[i].1 b.1[i].2 with
          | false => rfl
          | true =>
            cases h0 : i == 0 with
            | true => rfl
            | false =>
              have h0' : 0 < i := by simp at h0; omega
              simp only [Bool.not_true, Bool.not_false, cond_true, cond_false, wrP (show i ≤ 1000000000000000000 by omega) h0', dge, dlt (show i - 1 < b.1.length by omega), gAt', Bool.false_or, Bool.true_and, ahead]
              cases he : (b.1.getD (i - 1) dFoe).1 == b.1[i].1 with
              | false => cases Op.bytesLess (b.1.getD (i - 1) dFoe).1 b.1[i].1 <;> rfl
              | true =>
                rw [eq_of_beq he, less_irrefl]
                cases Op.bytesLess (b.1.getD (i - 1) dFoe).2 b.1[i].2 <;> rfl
    · unfold spec_l2FoesOk_0r
      rw [dnlt]; rfl
    · cases allI (foeOk b) 0 b.1 <;> rfl

/-! Places -/
/-- The place of a spot, -1 if it is not there. -/
def atB (b : Book) (n : Txt) : Int := idxB (fun s : Spot => s.1 == n) 0 b.2.1
theorem l2Spot {N : Nat} (hN : lim < N) {b : Book} (hb : b.2.1.length ≤ 1048576) (n : Txt) : spec_l2Spot N b n = some (atB b n) := by
  have hlim := lim_eq
  unfold spec_l2Spot spec_l2Spotb atB
  refine lp_idx b.2.1 _ (fun s : Spot => s.1 == n) (fun g i hi => ?_) (fun g => ?_) N (by omega)
  · unfold spec_l2Spot_0r
    simp only [dlt hi, dge, gAt hi, cond_true, wrS (show i ≤ 1000000000000000000 by omega)]
  · unfold spec_l2Spot_0r
    rw [dnlt]; rfl
theorem implAt {N : Nat} (hN : lim < N) {b : Book} (hb : b.2.1.length ≤ 1048576) (n : Txt) : impl_ClaimBook_at N b n = some (atB b n) := by
  have hlim := lim_eq
  unfold impl_ClaimBook_at atB
  have h : slices_IndexFunc_ClaimSpot__impl_ClaimBook_at_c1 N b.2.1 n = some (idxB (fun s : Spot => s.1 == n) 0 b.2.1, n) := by
    unfold slices_IndexFunc_ClaimSpot__impl_ClaimBook_at_c1 slices_IndexFunc_ClaimSpot__impl_ClaimBook_at_c1b
    refine lp_idxC b.2.1 _ (fun s : Spot => s.1 == n) n (fun g i hi => ?_) (fun g => ?_) N (by omega)
    · unfold slices_IndexFunc_ClaimSpot__impl_ClaimBook_at_c1_0r
      simp only [dlt hi, dge, gAt hi, cond_true, wrS (show i ≤ 1000000000000000000 by omega)]
      rw [ob_eq (show impl_ClaimBook_at_c1 N b.2.1[i] n = some (b.2.1[i].1 == n, n) from rfl)]
    · unfold slices_IndexFunc_ClaimSpot__impl_ClaimBook_at_c1_0r
      rw [dnlt]; rfl
  rw [ob_eq h]
theorem idxB_lt {α : Type} (p : α → Bool) : ∀ (l : List α) (i : Nat), 0 ≤ idxB p i l → idxB p i l < i + l.length
  | [], _, h => by simp [idxB] at h
  | x :: xs, i, h => by
    simp only [idxB] at h ⊢
    by_cases hp : p x = true
    · simp only [hp, cond_true, List.length_cons] at h ⊢; omega
    · have hp : p x = false := by simpa using hp
      simp only [hp, cond_false, List.length_cons] at h ⊢
      have := idxB_lt p xs (i + 1) h
      omega

theorem l1All {N : Nat} (hN : lim < N) {a b : List Txt} (ha : a.length ≤ 1048576) (hb : b.length ≤ 1048576) : spec_l1All N a b = some (a.all fun x => b.contains x) := by
  have hlim := lim_eq
  unfold spec_l1All spec_l1Allb
  refine (lp_allI a _ (fun _ x => b.contains x) (some false) (some true) (fun g i hi => ?_) (fun g => ?_) N (by omega)).trans ?_
  · unfold spec_l1All_0r
    simp only [dlt hi, dge, gAt hi, cond_true, wrS (show i ≤ 1000000000000000000 by omega)]
    rw [ob_eq (l1Has hN (show b.length ≤ lim by omega) _)]
    cases b.contains a[i] <;> rfl
  · unfold spec_l1All_0r
    rw [dnlt]; rfl
  · rw [allI_all]
    cases a.all fun x => b.contains x <;> rfl
theorem implWithin {N : Nat} (hN : lim < N) {a b : List Txt} (ha : a.length ≤ 1048576) (hb : b.length ≤ 1048576) : impl_within N a b = some (a.all fun x => b.contains x) := by
  have hlim := lim_eq
  unfold impl_within slices_ContainsFunc_string__impl_within_c1
  have h : slices_IndexFunc_string__impl_within_c1 N a b = some (idxB (fun x => !b.contains x) 0 a, b) := by
    unfold slices_IndexFunc_string__impl_within_c1 slices_IndexFunc_string__impl_within_c1b
    refine lp_idxC a _ (fun x => !b.contains x) b (fun g i hi => ?_) (fun g => ?_) N (by omega)
    · unfold slices_IndexFunc_string__impl_within_c1_0r
      simp only [dlt hi, dge, gAt hi, cond_true, wrS (show i ≤ 1000000000000000000 by omega)]
      have h1 : impl_within_c1 N a[i] b = some (!b.contains a[i], b) := by
        unfold impl_within_c1
        rw [ob_eq (slicesContains hN (show b.length ≤ lim by omega) _)]
      rw [ob_eq h1]
    · unfold slices_IndexFunc_string__impl_within_c1_0r
      rw [dnlt]; rfl
  rw [ob_eq (a := (!(a.all fun x => b.contains x), b)) (by rw [ob_eq h, idxB_nonneg, not_all]), Bool.not_not]

def knowsB (b : Book) (w : Want) : Bool := (w.2.2.2.1.all fun u => !decide (atB b u.1 < 0)) && ((w.2.2.2.2.1.all fun x => b.2.2.1.contains x) && (w.2.2.2.2.2.all fun x => b.2.2.1.contains x))
theorem l2Knows {N : Nat} (hN : lim < N) {b : Book} {w : Want} (hb : smB b) (hw : smW w) : spec_l2Knows N b w = some (knowsB b w) := by
  have hlim := lim_eq
  have h1 := hw.2.1.1
  have h2 : w.2.2.2.2.1.length ≤ 1048576 := hw.2.2.1.1
  have h3 : w.2.2.2.2.2.length ≤ 1048576 := hw.2.2.2.1
  have h4 : b.2.2.1.length ≤ 1048576 := hb.2.2.1.1
  have h5 := hb.2.1.1
  unfold spec_l2Knows spec_l2Knowsb knowsB
  have k4 : spec_l2Knows_4 N b w N 0 = some (w.2.2.2.2.2.all fun x => b.2.2.1.contains x) := by
    refine (lp_allI w.2.2.2.2.2 _ (fun _ x => b.2.2.1.contains x) (some false) (some true) (fun g i hi => ?_) (fun g => ?_) N (by omega)).trans ?_
    · unfold spec_l2Knows_4r
      simp only [dlt hi, dge, gAt hi, cond_true, wrS (show i ≤ 1000000000000000000 by omega)]
      rw [ob_eq (l1Has hN (show b.2.2.1.length ≤ lim by omega) _)]
      cases b.2.2.1.contains w.2.2.2.2.2[i] <;> rfl
    · unfold spec_l2Knows_4r
      rw [dnlt]; rfl
    · rw [allI_all]
      cases w.2.2.2.2.2.all fun x => b.2.2.1.contains x <;> rfl
  have k2 : spec_l2Knows_2 N b w N 0 = some ((w.2.2.2.2.1.all fun x => b.2.2.1.contains x) && (w.2.2.2.2.2.all fun x => b.2.2.1.contains x)) := by
    refine (lp_allI w.2.2.2.2.1 _ (fun _ x => b.2.2.1.contains x) (some false) (spec_l2Knows_4 N b w N 0) (fun g i hi => ?_) (fun g => ?_) N (by omega)).trans ?_
    · unfold spec_l2Knows_2r
      simp only [dlt hi, dge, gAt hi, cond_true, wrS (show i ≤ 1000000000000000000 by omega)]
      rw [ob_eq (l1Has hN (show b.2.2.1.length ≤ lim by omega) _)]
      cases b.2.2.1.contains w.2.2.2.2.1[i] <;> rfl
    · unfold spec_l2Knows_2r
      rw [dnlt]; rfl
    · rw [allI_all, k4]
      cases w.2.2.2.2.1.all fun x => b.2.2.1.contains x <;> rfl
  refine (lp_allI w.2.2.2.1 _ (fun _ u => !decide (atB b u.1 < 0)) (some false) (spec_l2Knows_2 N b w N 0) (fun g i hi => ?_) (fun g => ?_) N (by omega)).trans ?_
  · unfold spec_l2Knows_0r
    simp only [dlt hi, dge, gAt hi, cond_true, wrS (show i ≤ 1000000000000000000 by omega)]
    rw [ob_eq (l2Spot hN h5 _)]
    cases decide (atB b w.2.2.2.1[i].1 < 0) <;> rfl
  · unfold spec_l2Knows_0r
    rw [dnlt]; rfl
  · rw [allI_all, k2]
    cases w.2.2.2.1.all fun u => !decide (atB b u.1 < 0) <;> rfl
theorem implKnows {N : Nat} (hN : lim < N) {b : Book} {w : Want} (hb : smB b) (hw : smW w) : impl_ClaimBook_knows N b w = some (knowsB b w) := by
  have hlim := lim_eq
  have h1 := hw.2.1.1
  have h2 : w.2.2.2.2.1.length ≤ 1048576 := hw.2.2.1.1
  have h3 : w.2.2.2.2.2.length ≤ 1048576 := hw.2.2.2.1
  have h4 : b.2.2.1.length ≤ 1048576 := hb.2.2.1.1
  have h5 := hb.2.1.1
  unfold impl_ClaimBook_knows impl_ClaimBook_knowsb knowsB
  refine (lp_allI w.2.2.2.1 _ (fun _ u => !decide (atB b u.1 < 0)) (some false) (some ((w.2.2.2.2.1.all fun x => b.2.2.1.contains x) && (w.2.2.2.2.2.all fun x => b.2.2.1.contains x))) (fun g i hi => ?_) (fun g => ?_) N (by omega)).trans ?_
  · unfold impl_ClaimBook_knows_0r
    simp only [dlt hi, dge, gAt hi, cond_true, wrS (show i ≤ 1000000000000000000 by omega)]
    rw [ob_eq (implAt hN h5 _)]
    cases decide (atB b w.2.2.2.1[i].1 < 0) <;> rfl
  · unfold impl_ClaimBook_knows_0r
    rw [dnlt, cond_false, ob_eq (implWithin hN h2 h4)]
    simp only [ob_eq (implWithin hN h3 h4)]
    cases w.2.2.2.2.1.all fun x => b.2.2.1.contains x <;> rfl
  · rw [allI_all]
    cases w.2.2.2.1.all fun u => !decide (atB b u.1 < 0) <;> rfl

/-! Parts -/
/-- What was granted of a place is in its spot. -/
def useIn (s : Spot) (w : Want) (u : Use) : Bool :=
  !((w.2.1 == 2) && decide (s.2.2.2.1 > 0)) && (!((w.2.1 == 1) && (!(u.2.1 == 2) && !(s.2.2.2.2.all fun x => w.2.2.1.contains x))) && (!((w.2.1 == 1) && (!(u.2.1 == 1) && !(w.2.2.1.all fun x => s.2.2.2.2.contains x))) && decide (IntKind.i64.wrap (s.2.2.1 + u.2.2) ≤ s.2.2.2.1)))
theorem l2UseOk {N : Nat} (hN : lim < N) {s : Spot} {w : Want} (hs : smS s) (hw : smW w) (u : Use) : spec_l2UseOk N s w u = some (useIn s w u) := by
  unfold spec_l2UseOk useIn
  simp only [ob_eq (l1All hN hs.2.1 hw.1.1), ob_eq (l1All hN hw.1.1 hs.2.1), bne]
  generalize (w.2.1 == 2) = x0
  generalize decide (s.2.2.2.1 > 0) = x1
  generalize (w.2.1 == 1) = x2
  generalize (u.2.1 == 2) = x3
  generalize (u.2.1 == 1) = x4
  generalize (s.2.2.2.2.all fun x => w.2.2.1.contains x) = x5
  generalize (w.2.2.1.all fun x => s.2.2.2.2.contains x) = x6
  generalize decide (IntKind.i64.wrap (s.2.2.1 + u.2.2) ≤ s.2.2.2.1) = x7
  revert x0 x1 x2 x3 x4 x5 x6 x7
  decide +kernel

def spotAt (b : Book) (n : Txt) : Spot := b.2.1.getD (atB b n).toNat dSpot
def partOk (b : Book) (p : Part) : Bool := !decide (p.1.1 > b.2.2.2.2) && (wantOk p.1 && (knowsB b p.1 && p.1.2.2.2.1.all fun u => useIn (spotAt b u.1) p.1 u))
theorem at_of_knows {b : Book} {w : Want} (h : knowsB b w = true) {i : Nat} (hi : i < w.2.2.2.1.length) : 0 ≤ atB b w.2.2.2.1[i].1 ∧ atB b w.2.2.2.1[i].1 < b.2.1.length := by
  simp only [knowsB, Bool.and_eq_true] at h
  have h1 := List.all_eq_true.1 h.1 _ (List.getElem_mem hi)
  have h2 : 0 ≤ atB b w.2.2.2.1[i].1 := by
    have : ¬ atB b w.2.2.2.1[i].1 < 0 := by simpa using h1
    omega
  refine ⟨h2, ?_⟩
  have := idxB_lt (fun s : Spot => s.1 == w.2.2.2.1[i].1) b.2.1 0 h2
  unfold atB
  omega
theorem getD_mem {α : Type} {l : List α} {i : Nat} (h : i < l.length) (d : α) : l.getD i d ∈ l := by
  rw [List.getD_eq_getElem?_getD, List.getElem?_eq_getElem h]
  exact List.getElem_mem h
theorem spotAt_mem {b : Book} {n : Txt} (h : 0 ≤ atB b n) (h2 : atB b n < b.2.1.length) : spotAt b n ∈ b.2.1 := getD_mem (by omega) _

theorem l2PartOk {N : Nat} (hN : lim < N) {b : Book} {p : Part} (hb : smB b) (hp : smP p) : spec_l2PartOk N b p = some (partOk b p) := by
  have hlim := lim_eq
  have h1 := hp.2.1.1
  unfold spec_l2PartOk spec_l2PartOkb partOk
  rw [ob_eq (specWantOk hN hp)]
  simp only [ob_eq (l2Knows hN hb hp)]
  cases wantOk p.1 with
  | false => cases decide (p.1.1 > b.2.2.2.2) <;> rfl
  | true =>
    cases decide (p.1.1 > b.2.2.2.2) with
    | true => rfl
    | false =>
      cases hk : knowsB b p.1 with
      | false => rfl
      | true =>
        refine (lp_allI p.1.2.2.2.1 _ (fun _ u => useIn (spotAt b u.1) p.1 u) (some false) (some true) (fun g i hi => ?_) (fun g => ?_) N (by omega)).trans ?_
        · obtain ⟨h2, h3⟩ := at_of_knows hk hi
          unfold spec_l2PartOk_0r
          simp only [dlt hi, dge, gAt hi, cond_true, wrS (show i ≤ 1000000000000000000 by omega)]
          rw [ob_eq (l2Spot hN hb.2.1.1 _), decide_eq_true h2, decide_eq_true h3]
          simp only [cond_true, show b.2.1.getD (atB b p.1.2.2.2.1[i].1).toNat dSpot = spotAt b p.1.2.2.2.1[i].1 from rfl]
          rw [ob_eq (l2UseOk hN (hb.2.1.2 _ (spotAt_mem h2 h3)) hp _)]
          cases useIn (spotAt b p.1.2.2.2.1[i].1) p.1 p.1.2.2.2.1[i] <;> rfl
        · unfold spec_l2PartOk_0r
          rw [dnlt]; rfl
        · rw [allI_all]
          cases p.1.2.2.2.1.all fun u => useIn (spotAt b u.1) p.1 u <;> rfl

theorem implPartOk {N : Nat} (hN : lim < N) {b : Book} {p : Part} (hb : smB b) (hp : smP p) (hm : ∀ s ∈ b.2.1, 0 ≤ s.2.2.2.1) : impl_ClaimBook_partOk N b p = some (partOk b p) := by
  have hlim := lim_eq
  have h1 := hp.2.1.1
  unfold impl_ClaimBook_partOk impl_ClaimBook_partOkb partOk
  cases decide (p.1.1 > b.2.2.2.2) with
  | true => rfl
  | false =>
    simp only [cond_false, Bool.not_false, Bool.true_and, ob_eq (implWantOk hN hp), ob_eq (implKnows hN hb hp)]
    cases wantOk p.1 with
    | false => rfl
    | true =>
      cases hk : knowsB b p.1 with
      | false => rfl
      | true =>
        refine (lp_allI p.1.2.2.2.1 _ (fun _ u => useIn (spotAt b u.1) p.1 u) (some false) (some true) (fun g i hi => ?_) (fun g => ?_) N (by omega)).trans ?_
        · obtain ⟨h2, h3⟩ := at_of_knows hk hi
          have hmem := spotAt_mem h2 h3
          have hmost := hm _ hmem
          unfold impl_ClaimBook_partOk_0r
          simp only [dlt hi, dge, gAt hi, cond_true, wrS (show i ≤ 1000000000000000000 by omega)]
          rw [ob_eq (implAt hN hb.2.1.1 _), decide_eq_true h2, decide_eq_true h3]
          simp only [cond_true]
          change (bif decide (IntKind.i64.wrap ((spotAt b p.1.2.2.2.1[i].1).2.2.1 + p.1.2.2.2.1[i].2.2) > (spotAt b p.1.2.2.2.1[i].1).2.2.2.1) then _ else _) = _
          simp only [show b.2.1.getD (atB b p.1.2.2.2.1[i].1).toNat dSpot = spotAt b p.1.2.2.2.1[i].1 from rfl]
          generalize spotAt b p.1.2.2.2.1[i].1 = s at hmem hmost ⊢
          generalize p.1.2.2.2.1[i] = u
          simp only [ob_eq (implWithin hN (hb.2.1.2 s hmem).2.1 hp.1.1), ob_eq (implWithin hN hp.1.1 (hb.2.1.2 s hmem).2.1), bne]
          have e1 : (s.2.2.2.1 == 0) = !decide (s.2.2.2.1 > 0) := by
            by_cases h : s.2.2.2.1 = 0
            · rw [h]; rfl
            · rw [decide_eq_true (by omega)]
              exact beq_eq_false_iff_ne.2 h
          have e2 : decide (IntKind.i64.wrap (s.2.2.1 + u.2.2) > s.2.2.2.1) = !decide (IntKind.i64.wrap (s.2.2.1 + u.2.2) ≤ s.2.2.2.1) := by
            by_cases h : IntKind.i64.wrap (s.2.2.1 + u.2.2) ≤ s.2.2.2.1
            · rw [decide_eq_true h, decide_eq_false (by omega)]; rfl
            · rw [decide_eq_false h, decide_eq_true (by omega)]; rfl
          rw [e1, e2]
          unfold useIn
          generalize (p.1.2.1 == 2) = x0
          generalize decide (s.2.2.2.1 > 0) = x1
          generalize (p.1.2.1 == 1) = x2
          generalize (u.2.1 == 2) = x3
          generalize (u.2.1 == 1) = x4
          generalize (s.2.2.2.2.all fun x => p.1.2.2.1.contains x) = x5
          generalize (p.1.2.2.1.all fun x => s.2.2.2.2.contains x) = x6
          generalize decide (IntKind.i64.wrap (s.2.2.1 + u.2.2) ≤ s.2.2.2.1) = x7
          generalize g ((i + 1 : Nat) : Int) = gg
          cases x7 <;> cases x0 <;> cases x1 <;> cases x2 <;> cases x3 <;> cases x4 <;> cases x5 <;> cases x6 <;> rfl
        · unfold impl_ClaimBook_partOk_0r
          rw [dnlt]; rfl
        · rw [allI_all]
          cases p.1.2.2.2.1.all fun u => useIn (spotAt b u.1) p.1 u <;> rfl
end Go.MC

/- ClaimBookOk and ClaimMay: the laws. -/
set_option linter.unusedVariables false
set_option linter.unusedSimpArgs false
namespace Go.MC
open Go.MC.F

/-! Spots -/
def spotOk (b : Book) (s : Spot) : Bool := nmOk s.1 && (inB s.2.1 0 1000 && (inB s.2.2.1 0 s.2.2.2.1 && (!decide (s.2.2.2.1 > s.2.1) && (nmsOk s.2.2.2.2 8 && !clash b s.2.2.2.2 s.2.2.2.2))))
def spotI (b : Book) (i : Nat) (s : Spot) : Bool := spotOk b s && (i == 0 || Op.bytesLess (b.2.1.getD (i - 1) dSpot).1 s.1)
def spotsOk (b : Book) : Bool := !decide ((b.2.1.length : Int) > 8) && allI (spotI b) 0 b.2.1

theorem l2SpotOk {N : Nat} (hN : lim < N) {b : Book} {s : Spot} (hb : b.1.length ≤ 1048576) (hs : smS s) : spec_l2SpotOk N b s = some (spotOk b s) := by
  have hlim := lim_eq
  have h1 := hs.2.1
  unfold spec_l2SpotOk spec_l2SpotOkb spotOk
  rw [ob_eq (l1NameOk hN _)]
  simp only [ob_eq (l1In s.2.1 0 1000), ob_eq (l1In s.2.2.1 0 s.2.2.2.1), ob_eq (l1NamesOk hN (show s.2.2.2.2.length ≤ lim by omega) 8)]
  have loop : spec_l2SpotOk_0 N b s N 0 = some (!clash b s.2.2.2.2 s.2.2.2.2) := by
    refine (lp_allI s.2.2.2.2 _ (fun _ x => !(s.2.2.2.2.any fun v => isFoe b x v)) (some false) (some true) (fun g i hi => ?_) (fun g => ?_) N (by omega)).trans ?_
    · unfold spec_l2SpotOk_0r
      simp only [dlt hi, dge, gAt hi, cond_true, wrS (show i ≤ 1000000000000000000 by omega)]
      rw [ob_eq (l2Clash hN hb _ h1)]
      cases s.2.2.2.2.any fun v => isFoe b s.2.2.2.2[i] v <;> rfl
    · unfold spec_l2SpotOk_0r
      rw [dnlt]; rfl
    · rw [allI_all, not_any, clash_eq]
      cases s.2.2.2.2.any fun u => s.2.2.2.2.any fun v => isFoe b u v <;> rfl
  rw [loop]
  cases nmOk s.1 <;> cases inB s.2.1 0 1000 <;> cases inB s.2.2.1 0 s.2.2.2.1 <;> cases decide (s.2.2.2.1 > s.2.1) <;> cases nmsOk s.2.2.2.2 8 <;> rfl

/-! Wants that have something in common -/
def share (a b : Want) : Bool := a.2.2.2.1.any fun u => b.2.2.2.1.any fun v => u.1 == v.1
def cross (a b : Want) : Bool := (a.2.2.2.2.1.any fun x => b.2.2.2.2.1.contains x) || ((a.2.2.2.2.1.any fun x => b.2.2.2.2.2.contains x) || (a.2.2.2.2.2.any fun x => b.2.2.2.2.1.contains x))

/-- A loop that appends. -/
theorem lp_app {α β : Type} {l : List α} {rd : (Int → List β → Option (List β)) → Int → List β → Option (List β)} (f : α → β)
    (hstep : ∀ (g : Int → List β → Option (List β)) (i : Nat) (out : List β) (h : i < l.length), out.length ≤ i → rd g (i : Int) out = g ((i + 1 : Nat) : Int) (out ++ [f l[i]]))
    (hend : ∀ (g : Int → List β → Option (List β)) (out : List β), rd g (l.length : Int) out = some out) {N : Nat} (hN : l.length < N) : lp (fun _ _ => none) rd N 0 [] = some (l.map f) := by
  have := lp_walk l (fun (g : Int → List β → Option (List β)) i (d : List β) => g (i : Int) d) (fun _ _ => none) rd (fun i d x => .inl (d ++ [f x])) (fun d => some d) (fun i d => d.length ≤ i)
    (fun g i st h hi => ⟨hstep g i st h hi, fun st' hs => by cases hs; simp; omega⟩) (fun g d hd => hend g d) N hN [] (by simp)
  refine this.trans ?_
  have : ∀ (l : List α) i (d : List β), outW (fun d => some d) (walkL (fun i (d : List β) x => (Sum.inl (d ++ [f x]) : List β ⊕ Option (List β))) i l d) = some (d ++ l.map f) := by
    intro l
    induction l with
    | nil => intro i d; simp [walkL, outW]
    | cons x xs ih =>
      intro i d
      simp only [walkL]
      rw [ih (i + 1) (d ++ [f x])]
      simp
  rw [this l 0 []]; rfl

theorem l2Uses {N : Nat} (hN : lim < N) {w : Want} (hw : smW w) : spec_l2Uses N w = some (w.2.2.2.1.map (·.1)) := by
  have hlim := lim_eq
  have h1 := hw.2.1.1
  unfold spec_l2Uses spec_l2Usesb
  refine lp_app (l := w.2.2.2.1) (fun u : Use => u.1) (fun g i out hi ho => ?_) (fun g out => ?_) (by omega)
  · unfold spec_l2Uses_0r
    simp only [dlt hi, dge, gAt hi, cond_true, wrS (show i ≤ 1000000000000000000 by omega)]
    have : decide ((out.length + [w.2.2.2.1[i].1].length) * 16 ≤ lim) = true := decide_eq_true (by simp; omega)
    simp only [this, cond_true]
  · unfold spec_l2Uses_0r
    rw [dnlt]; rfl
theorem share_eq (a b : Want) : ((a.2.2.2.1.map (·.1)).any fun x => (b.2.2.2.1.map (·.1)).contains x) = share a b := by
  unfold share
  rw [List.any_map]
  congr 1
  funext u
  simp only [Function.comp, List.contains_eq_any_beq, List.any_map]
  rfl
theorem l2Share {N : Nat} (hN : lim < N) {a b : Want} (ha : smW a) (hb : smW b) : spec_l1Share N (a.2.2.2.1.map (·.1)) (b.2.2.2.1.map (·.1)) = some (share a b) := by
  have hlim := lim_eq
  have h1 := ha.2.1.1
  have h2 := hb.2.1.1
  rw [l1Share hN (by simp; omega) (by simp; omega), share_eq]
theorem l2Crosses {N : Nat} (hN : lim < N) {a b : Want} (ha : smW a) (hb : smW b) : spec_l2Crosses N a b = some (cross a b) := by
  have hlim := lim_eq
  have h1 : a.2.2.2.2.1.length ≤ 1048576 := ha.2.2.1.1
  have h2 : a.2.2.2.2.2.length ≤ 1048576 := ha.2.2.2.1
  have h3 : b.2.2.2.2.1.length ≤ 1048576 := hb.2.2.1.1
  have h4 : b.2.2.2.2.2.length ≤ 1048576 := hb.2.2.2.1
  unfold spec_l2Crosses cross
  rw [ob_eq (l1Share hN (show a.2.2.2.2.1.length ≤ lim by omega) (show b.2.2.2.2.1.length ≤ lim by omega))]
  simp only [ob_eq (l1Share hN (show a.2.2.2.2.1.length ≤ lim by omega) (show b.2.2.2.2.2.length ≤ lim by omega)), ob_eq (l1Share hN (show a.2.2.2.2.2.length ≤ lim by omega) (show b.2.2.2.2.1.length ≤ lim by omega))]
  cases (a.2.2.2.2.1.any fun x => b.2.2.2.2.1.contains x) <;> cases (a.2.2.2.2.1.any fun x => b.2.2.2.2.2.contains x) <;> rfl
theorem implCross {N : Nat} (hN : lim < N) {a b : Want} (ha : smW a) (hb : smW b) : impl_cross N a b = some (cross a b) := by
  have hlim := lim_eq
  have h1 : a.2.2.2.2.1.length ≤ 1048576 := ha.2.2.1.1
  have h2 : a.2.2.2.2.2.length ≤ 1048576 := ha.2.2.2.1
  have h3 : b.2.2.2.2.1.length ≤ 1048576 := hb.2.2.1.1
  have h4 : b.2.2.2.2.2.length ≤ 1048576 := hb.2.2.2.1
  unfold impl_cross cross
  rw [ob_eq (implCommon hN (show a.2.2.2.2.1.length ≤ lim by omega) (show b.2.2.2.2.1.length ≤ lim by omega))]
  simp only [ob_eq (implCommon hN (show a.2.2.2.2.1.length ≤ lim by omega) (show b.2.2.2.2.2.length ≤ lim by omega)), ob_eq (implCommon hN (show a.2.2.2.2.2.length ≤ lim by omega) (show b.2.2.2.2.1.length ≤ lim by omega))]
  cases (a.2.2.2.2.1.any fun x => b.2.2.2.2.1.contains x) <;> cases (a.2.2.2.2.1.any fun x => b.2.2.2.2.2.contains x) <;> rfl

theorem implShare {N : Nat} (hN : lim < N) {a b : Want} (ha : smW a) (hb : smW b) : impl_share N a b = some (share a b) := by
  have hlim := lim_eq
  have h1 := ha.2.1.1
  have h2 := hb.2.1.1
  have inner : ∀ u : Use, impl_share_c1 N u b = some (b.2.2.2.1.any fun v => u.1 == v.1, b) := by
    intro u
    unfold impl_share_c1 slices_ContainsFunc_ClaimUse__impl_share_c1_c1
    have h : slices_IndexFunc_ClaimUse__impl_share_c1_c1 N b.2.2.2.1 u = some (idxB (fun v : Use => u.1 == v.1) 0 b.2.2.2.1, u) := by
      unfold slices_IndexFunc_ClaimUse__impl_share_c1_c1 slices_IndexFunc_ClaimUse__impl_share_c1_c1b
      have := lp_walk b.2.2.2.1 (fun (g : Int → Txt → Int → Int → Option (Int × Use)) i (d : Use) => g (i : Int) d.1 d.2.1 d.2.2) (fun _ _ _ _ => none) (slices_IndexFunc_ClaimUse__impl_share_c1_c1_0r N b.2.2.2.1 (b.2.2.2.1.length : Int)) (fun i d x => bif u.1 == x.1 then .inr (some ((i : Int), d)) else .inl d) (fun d => some (-1, d)) (fun _ d => d = u)
        (fun g i st h hi => ⟨by
          subst hi
          unfold slices_IndexFunc_ClaimUse__impl_share_c1_c1_0r
          simp only [dlt h, dge, gAt h, cond_true, wrS (show i ≤ 1000000000000000000 by omega)]
          rw [ob_eq (show impl_share_c1_c1 N b.2.2.2.1[i] (st.1, st.2.1, st.2.2) = some (st.1 == b.2.2.2.1[i].1, st) from rfl)]
          cases st.1 == b.2.2.2.1[i].1 <;> rfl, fun st' hs => by
          subst hi
          cases hp : st.1 == b.2.2.2.1[i].1 with
          | true => rw [hp] at hs; cases hs
          | false => rw [hp] at hs; cases hs; rfl⟩) (fun g d hd => by
          subst hd
          unfold slices_IndexFunc_ClaimUse__impl_share_c1_c1_0r
          rw [dnlt]; rfl) N (by omega) u rfl
      refine this.trans ?_
      have : ∀ (l : List Use) i, outW (fun d => some (-1, d)) (walkL (fun i (d : Use) (x : Use) => bif u.1 == x.1 then Sum.inr (some ((i : Int), d)) else Sum.inl d) i l u) = some (idxB (fun v : Use => u.1 == v.1) i l, u) := by
        intro l
        induction l with
        | nil => intro i; rfl
        | cons x xs ih =>
          intro i
          simp only [walkL, idxB]
          cases u.1 == x.1 with
          | false => simpa using ih (i + 1)
          | true => rfl
      exact this b.2.2.2.1 0
    rw [ob_eq (a := (b.2.2.2.1.any fun v => u.1 == v.1, u)) (by rw [ob_eq h, idxB_nonneg])]
  unfold impl_share slices_ContainsFunc_ClaimUse__impl_share_c1 share
  have h : slices_IndexFunc_ClaimUse__impl_share_c1 N a.2.2.2.1 b = some (idxB (fun u : Use => b.2.2.2.1.any fun v => u.1 == v.1) 0 a.2.2.2.1, b) := by
    unfold slices_IndexFunc_ClaimUse__impl_share_c1 slices_IndexFunc_ClaimUse__impl_share_c1b
    have := lp_walk a.2.2.2.1 (fun (g : Int → Int → Int → List Txt → List Use → List Txt → List Txt → Option (Int × Want)) i (d : Want) => g (i : Int) d.1 d.2.1 d.2.2.1 d.2.2.2.1 d.2.2.2.2.1 d.2.2.2.2.2) (fun _ _ _ _ _ _ _ => none) (slices_IndexFunc_ClaimUse__impl_share_c1_0r N a.2.2.2.1 (a.2.2.2.1.length : Int)) (fun i d x => bif b.2.2.2.1.any (fun v => x.1 == v.1) then .inr (some ((i : Int), d)) else .inl d) (fun d => some (-1, d)) (fun _ d => d = b)
      (fun g i st h hi => ⟨by
        subst hi
        unfold slices_IndexFunc_ClaimUse__impl_share_c1_0r
        simp only [dlt h, dge, gAt h, cond_true, wrS (show i ≤ 1000000000000000000 by omega)]
        rw [ob_eq (show impl_share_c1 N a.2.2.2.1[i] (st.1, st.2.1, st.2.2.1, st.2.2.2.1, st.2.2.2.2.1, st.2.2.2.2.2) = some (st.2.2.2.1.any fun v => a.2.2.2.1[i].1 == v.1, st) from inner _)]
        cases st.2.2.2.1.any fun v => a.2.2.2.1[i].1 == v.1 <;> rfl, fun st' hs => by
        subst hi
        cases hp : st.2.2.2.1.any (fun v => a.2.2.2.1[i].1 == v.1) with
        | true => rw [hp] at hs; cases hs
        | false => rw [hp] at hs; cases hs; rfl⟩) (fun g d hd => by
        subst hd
        unfold slices_IndexFunc_ClaimUse__impl_share_c1_0r
        rw [dnlt]; rfl) N (by omega) b rfl
    refine this.trans ?_
    have : ∀ (l : List Use) i, outW (fun d => some (-1, d)) (walkL (fun i (d : Want) (x : Use) => bif b.2.2.2.1.any (fun v => x.1 == v.1) then Sum.inr (some ((i : Int), d)) else Sum.inl d) i l b) = some (idxB (fun u : Use => b.2.2.2.1.any fun v => u.1 == v.1) i l, b) := by
      intro l
      induction l with
      | nil => intro i; rfl
      | cons x xs ih =>
        intro i
        simp only [walkL, idxB]
        cases b.2.2.2.1.any fun v => x.1 == v.1 with
        | false => simpa using ih (i + 1)
        | true => rfl
    exact this a.2.2.2.1 0
  rw [ob_eq (a := (a.2.2.2.1.any fun u => b.2.2.2.1.any fun v => u.1 == v.1, b)) (by rw [ob_eq h, idxB_nonneg])]

/-! Parts -/
def partI (b : Book) (i : Nat) (p : Part) : Bool := partOk b p && ((i == 0 || !decide ((b.2.2.2.1.getD (i - 1) dPart).1.1 ≥ p.1.1)) && (b.2.2.2.1.take i).all fun q => !share p.1 q.1 && !cross p.1 q.1)
def partsOk (b : Book) : Bool := !decide ((b.2.2.2.1.length : Int) > 6) && allI (partI b) 0 b.2.2.2.1
/-- A book is ok. -/
def bookOk (b : Book) : Bool := foesOk b && (nmsOk b.2.2.1 12 && (inB b.2.2.2.2 0 1000000 && (spotsOk b && partsOk b)))

theorem take_get {α : Type} {l : List α} {i k : Nat} (hk : k < (l.take i).length) : l[k]'(by simp at hk; omega) = (l.take i)[k] := by simp

theorem l2PartsOk {N : Nat} (hN : lim < N) {b : Book} (hb : smB b) : spec_l2PartsOk N b = some (partsOk b) := by
  have hlim := lim_eq
  have hlb := hb.2.2.2.1
  unfold spec_l2PartsOk spec_l2PartsOkb partsOk
  cases hlen : decide ((b.2.2.2.1.length : Int) > 6) with
  | true => rfl
  | false =>
    refine (lp_allI b.2.2.2.1 _ (partI b) (some false) (some true) (fun g i hi => ?_) (fun g => ?_) N (by omega)).trans ?_
    · have hp := hb.2.2.2.2 _ (List.getElem_mem hi)
      have inner : spec_l2PartsOk_2 N g b (i : Int) b.2.2.2.1[i].1.1 b.2.2.2.1[i].1.2.1 b.2.2.2.1[i].1.2.2.1 b.2.2.2.1[i].1.2.2.2.1 b.2.2.2.1[i].1.2.2.2.2.1 b.2.2.2.1[i].1.2.2.2.2.2 N 0 =
          bif (b.2.2.2.1.take i).all (fun q => !share b.2.2.2.1[i].1 q.1 && !cross b.2.2.2.1[i].1 q.1) then g ((i + 1 : Nat) : Int) else some false := by
        have hl : (b.2.2.2.1.take i).length = i := by simp; omega
        refine (lp_allI (b.2.2.2.1.take i) _ (fun _ q => !share b.2.2.2.1[i].1 q.1 && !cross b.2.2.2.1[i].1 q.1) (some false) (g ((i + 1 : Nat) : Int)) (fun g2 k hk => ?_) (fun g2 => ?_) N (by omega)).trans ?_
        · have hk' : k < b.2.2.2.1.length := by simp at hk; omega
          have hq := hb.2.2.2.2 _ (List.getElem_mem hk')
          have hki : k < i := by omega
          unfold spec_l2PartsOk_2r
          simp only [dlt hki, dlt hk', dge, gAt hk', cond_true, wrS (show k ≤ 1000000000000000000 by omega)]
          rw [ob_eq (show spec_l2Uses N (b.2.2.2.1[i].1.1, b.2.2.2.1[i].1.2.1, b.2.2.2.1[i].1.2.2.1, b.2.2.2.1[i].1.2.2.2.1, b.2.2.2.1[i].1.2.2.2.2.1, b.2.2.2.1[i].1.2.2.2.2.2) = _ from l2Uses hN hp), ob_eq (l2Uses hN hq), ob_eq (l2Share hN hp hq)]
          rw [← take_get hk]
          cases share b.2.2.2.1[i].1 b.2.2.2.1[k].1 with
          | true => rfl
          | false =>
            simp only [cond_false]
            rw [ob_eq (show spec_l2Crosses N (b.2.2.2.1[i].1.1, b.2.2.2.1[i].1.2.1, b.2.2.2.1[i].1.2.2.1, b.2.2.2.1[i].1.2.2.2.1, b.2.2.2.1[i].1.2.2.2.2.1, b.2.2.2.1[i].1.2.2.2.2.2) b.2.2.2.1[k].1 = _ from l2Crosses hN hp hq)]
            cases cross b.2.2.2.1[i].1 b.2.2.2.1[k].1 <;> rfl
        · unfold spec_l2PartsOk_2r
          rw [hl, dnlt, cond_false, wrS (by omega)]
        · rw [allI_all]
      unfold spec_l2PartsOk_0r partI
      simp only [dlt hi, dge, gAt hi, cond_true, wrS (show i ≤ 1000000000000000000 by omega), dgt0]
      rw [ob_eq (l2PartOk hN hb hp)]
      cases partOk b b.2.2.2.1[i] with
      | false => rfl
      | true =>
        cases h0 : i == 0 with
        | true =>
          simp only [Bool.not_true, cond_false, Bool.true_or, Bool.true_and]
          exact inner
        | false =>
          have h0' : 0 < i := by simp at h0; omega
          simp only [Bool.not_true, Bool.not_false, cond_true, cond_false, wrP (show i ≤ 1000000000000000000 by omega) h0', dge, dlt (show i - 1 < b.2.2.2.1.length by omega), gAt', Bool.false_or, Bool.true_and]
          cases decide ((b.2.2.2.1.getD (i - 1) dPart).1.1 ≥ b.2.2.2.1[i].1.1) with
          | true => rfl
          | false => exact inner
    · unfold spec_l2PartsOk_0r
      rw [dnlt]; rfl
    · cases allI (partI b) 0 b.2.2.2.1 <;> rfl

theorem specBookOk {N : Nat} (hN : lim < N) {b : Book} (hb : smB b) : spec_ClaimBookOk N b = some (bookOk b) := by
  have hlim := lim_eq
  have hls := hb.2.1.1
  have hlv : b.2.2.1.length ≤ 1048576 := hb.2.2.1.1
  unfold spec_ClaimBookOk spec_ClaimBookOkb bookOk spotsOk
  rw [ob_eq (l2FoesOk hN b)]
  simp only [ob_eq (l1NamesOk hN (show b.2.2.1.length ≤ lim by omega) 12), ob_eq (l1In b.2.2.2.2 0 1000000)]
  have loop : spec_ClaimBookOk_0 N b N 0 = some (allI (spotI b) 0 b.2.1 && partsOk b) := by
    refine (lp_allI b.2.1 _ (spotI b) (some false) (some (partsOk b)) (fun g i hi => ?_) (fun g => ?_) N (by omega)).trans ?_
    · unfold spec_ClaimBookOk_0r spotI
      simp only [dlt hi, dge, gAt hi, cond_true, wrS (show i ≤ 1000000000000000000 by omega), dgt0]
      rw [ob_eq (l2SpotOk hN hb.1.1 (hb.2.1.2 _ (List.getElem_mem hi)))]
      cases spotOk b b.2.1[i] with
      | false => rfl
      | true =>
        cases h0 : i == 0 with
        | true => rfl
        | false =>
          have h0' : 0 < i := by simp at h0; omega
          simp only [Bool.not_true, Bool.not_false, cond_true, cond_false, wrP (show i ≤ 1000000000000000000 by omega) h0', dge, dlt (show i - 1 < b.2.1.length by omega), gAt', Bool.false_or, Bool.true_and]
          cases Op.bytesLess (b.2.1.getD (i - 1) dSpot).1 b.2.1[i].1 <;> rfl
    · unfold spec_ClaimBookOk_0r
      rw [dnlt, cond_false, ob_eq (l2PartsOk hN hb)]
    · cases allI (spotI b) 0 b.2.1 <;> rfl
  rw [loop]
  cases foesOk b <;> cases decide ((b.2.1.length : Int) > 8) <;> cases nmsOk b.2.2.1 12 <;> cases inB b.2.2.2.2 0 1000000 <;> rfl

theorem most_of_spots {b : Book} (h : allI (spotI b) 0 b.2.1 = true) : ∀ s ∈ b.2.1, 0 ≤ s.2.2.2.1 := by
  intro s hs
  obtain ⟨i, hi⟩ := List.getElem?_of_mem hs
  have := allI_iff.1 h i s hi
  simp only [spotI, spotOk, inB, Bool.and_eq_true, decide_eq_true_eq] at this
  have := this.1.2.2.1
  omega

theorem implBookOk {N : Nat} (hN : lim < N) {b : Book} (hb : smB b) : impl_ClaimBookOk N b = some (bookOk b) := by
  have hlim := lim_eq
  have hlf := hb.1.1
  have hls := hb.2.1.1
  have hlv : b.2.2.1.length ≤ 1048576 := hb.2.2.1.1
  have hlp := hb.2.2.2.1
  unfold impl_ClaimBookOk impl_ClaimBookOkb bookOk foesOk spotsOk partsOk
  simp only [ob_eq (implNames hN (show b.2.2.1.length ≤ lim by omega) 12), ob_eq (implIn b.2.2.2.2 0 1000000)]
  have k4 : (∀ s ∈ b.2.1, 0 ≤ s.2.2.2.1) → impl_ClaimBookOk_4 N b (b.2.2.2.1.length : Int) N 0 = some (allI (partI b) 0 b.2.2.2.1) := by
    intro hm
    refine (lp_allI b.2.2.2.1 _ (partI b) (some false) (some true) (fun g i hi => ?_) (fun g => ?_) N (by omega)).trans ?_
    · have hp := hb.2.2.2.2 _ (List.getElem_mem hi)
      have inner : ∀ c6, impl_ClaimBookOk_6 N g b (b.2.2.2.1.length : Int) (i : Int) (b.2.2.2.1.take i) ((b.2.2.2.1.take i).length : Int) b.2.2.2.1[i].1.1 b.2.2.2.1[i].1.2.1 b.2.2.2.1[i].1.2.2.1 b.2.2.2.1[i].1.2.2.2.1 b.2.2.2.1[i].1.2.2.2.2.1 b.2.2.2.1[i].1.2.2.2.2.2 c6 N 0 =
          bif (b.2.2.2.1.take i).all (fun q => !share b.2.2.2.1[i].1 q.1 && !cross b.2.2.2.1[i].1 q.1) then g ((i + 1 : Nat) : Int) else some false := by
        intro c6
        have hl : (b.2.2.2.1.take i).length = i := by simp; omega
        refine (lp_allI (b.2.2.2.1.take i) _ (fun _ q => !share b.2.2.2.1[i].1 q.1 && !cross b.2.2.2.1[i].1 q.1) (some false) (g ((i + 1 : Nat) : Int)) (fun g2 k hk => ?_) (fun g2 => ?_) N (by omega)).trans ?_
        · have hk' : k < b.2.2.2.1.length := by simp at hk; omega
          have hq := hb.2.2.2.2 _ (List.mem_of_mem_take (List.getElem_mem hk))
          unfold impl_ClaimBookOk_6r
          simp only [dlt hk, dge, gAt hk, cond_true, wrS (show k ≤ 1000000000000000000 by omega)]
          rw [ob_eq (show impl_share N (b.2.2.2.1[i].1.1, b.2.2.2.1[i].1.2.1, b.2.2.2.1[i].1.2.2.1, b.2.2.2.1[i].1.2.2.2.1, b.2.2.2.1[i].1.2.2.2.2.1, b.2.2.2.1[i].1.2.2.2.2.2) (b.2.2.2.1.take i)[k].1 = _ from implShare hN hp hq)]
          cases share b.2.2.2.1[i].1 (b.2.2.2.1.take i)[k].1 with
          | true => rfl
          | false =>
            simp only [cond_false]
            rw [ob_eq (show impl_cross N (b.2.2.2.1[i].1.1, b.2.2.2.1[i].1.2.1, b.2.2.2.1[i].1.2.2.1, b.2.2.2.1[i].1.2.2.2.1, b.2.2.2.1[i].1.2.2.2.2.1, b.2.2.2.1[i].1.2.2.2.2.2) (b.2.2.2.1.take i)[k].1 = _ from implCross hN hp hq)]
            cases cross b.2.2.2.1[i].1 (b.2.2.2.1.take i)[k].1 <;> rfl
        · unfold impl_ClaimBookOk_6r
          rw [dnlt, cond_false, wrS (by omega)]
        · rw [allI_all]
      unfold impl_ClaimBookOk_4r partI
      simp only [dlt hi, dge, gAt hi, cond_true, wrS (show i ≤ 1000000000000000000 by omega), dgt0]
      have hle : decide ((i : Int) ≤ (b.2.2.2.1.length : Int)) = true := decide_eq_true (by omega)
      have hz : Int.toNat (0 : Int) = 0 := rfl
      have hi' : Int.toNat (i : Int) = i := rfl
      cases h0 : i == 0 with
      | true =>
        simp only [Bool.not_true, cond_false, Bool.true_or, Bool.true_and]
        rw [ob_eq (implPartOk hN hb hp hm)]
        cases partOk b b.2.2.2.1[i] with
        | false => rfl
        | true =>
          simp only [Bool.not_true, cond_false, hle, cond_true, hi', hz, List.drop_zero, Bool.true_and]
          exact inner _
      | false =>
        have h0' : 0 < i := by simp at h0; omega
        simp only [Bool.not_true, Bool.not_false, cond_true, cond_false, wrP (show i ≤ 1000000000000000000 by omega) h0', dge, dlt (show i - 1 < b.2.2.2.1.length by omega), gAt', Bool.false_or, Bool.true_and]
        cases decide ((b.2.2.2.1.getD (i - 1) dPart).1.1 ≥ b.2.2.2.1[i].1.1) with
        | true => simp
        | false =>
          rw [cond_false, ob_eq (implPartOk hN hb hp hm)]
          cases partOk b b.2.2.2.1[i] with
          | false => rfl
          | true =>
            simp only [Bool.not_true, Bool.not_false, cond_false, hle, cond_true, hi', hz, List.drop_zero, Bool.true_and]
            exact inner _
    · unfold impl_ClaimBookOk_4r
      rw [dnlt]; rfl
    · cases allI (partI b) 0 b.2.2.2.1 <;> rfl
  have k2 : impl_ClaimBookOk_2 N b (b.2.1.length : Int) N 0 = some (allI (spotI b) 0 b.2.1 && allI (partI b) 0 b.2.2.2.1) := by
    refine (lp_allI b.2.1 _ (spotI b) (some false) (impl_ClaimBookOk_4 N b (b.2.2.2.1.length : Int) N 0) (fun g i hi => ?_) (fun g => ?_) N (by omega)).trans ?_
    · have hs := hb.2.1.2 _ (List.getElem_mem hi)
      have h1 := hs.2.1
      unfold impl_ClaimBookOk_2r spotI spotOk
      simp only [dlt hi, dge, gAt hi, cond_true, wrS (show i ≤ 1000000000000000000 by omega), dgt0]
      rw [ob_eq (implName hN _)]
      have tail : (ob (impl_in N b.2.1[i].2.1 0 1000) false fun r => bif !r then some false else bif decide (b.2.1[i].2.2.1 < 0) then some false else bif decide (b.2.1[i].2.2.1 > b.2.1[i].2.2.2.1) then some false else bif decide (b.2.1[i].2.2.2.1 > b.2.1[i].2.1) then some false else
          ob (impl_names N b.2.1[i].2.2.2.2 8) false fun r => bif !r then some false else ob (impl_ClaimBook_foes N b b.2.1[i].2.2.2.2 b.2.1[i].2.2.2.2) false fun r => bif r then some false else g ((i + 1 : Nat) : Int)) =
          bif (inB b.2.1[i].2.1 0 1000 && (inB b.2.1[i].2.2.1 0 b.2.1[i].2.2.2.1 && (!decide (b.2.1[i].2.2.2.1 > b.2.1[i].2.1) && (nmsOk b.2.1[i].2.2.2.2 8 && !clash b b.2.1[i].2.2.2.2 b.2.1[i].2.2.2.2)))) then g ((i + 1 : Nat) : Int) else some false := by
        simp only [ob_eq (implIn b.2.1[i].2.1 0 1000), ob_eq (implNames hN (show b.2.1[i].2.2.2.2.length ≤ lim by omega) 8), ob_eq (implFoes hN hlf h1 h1)]
        have e1 : inB b.2.1[i].2.2.1 0 b.2.1[i].2.2.2.1 = (!decide (b.2.1[i].2.2.1 < 0) && !decide (b.2.1[i].2.2.1 > b.2.1[i].2.2.2.1)) := by
          unfold inB
          congr 1
          · by_cases h : b.2.1[i].2.2.1 < 0
            · rw [decide_eq_true h, decide_eq_false (by omega)]; rfl
            · rw [decide_eq_false h, decide_eq_true (by omega)]; rfl
          · by_cases h : b.2.1[i].2.2.1 > b.2.1[i].2.2.2.1
            · rw [decide_eq_true h, decide_eq_false (by omega)]; rfl
            · rw [decide_eq_false h, decide_eq_true (by omega)]; rfl
        rw [e1]
        cases inB b.2.1[i].2.1 0 1000 <;> cases decide (b.2.1[i].2.2.1 < 0) <;> cases decide (b.2.1[i].2.2.1 > b.2.1[i].2.2.2.1) <;> cases decide (b.2.1[i].2.2.2.1 > b.2.1[i].2.1) <;> cases nmsOk b.2.1[i].2.2.2.2 8 <;> cases clash b b.2.1[i].2.2.2.2 b.2.1[i].2.2.2.2 <;> rfl
      cases nmOk b.2.1[i].1 with
      | false => rfl
      | true =>
        cases h0 : i == 0 with
        | true =>
          simp only [Bool.not_true, cond_false, Bool.true_or, Bool.true_and, Bool.and_true]
          exact tail
        | false =>
          have h0' : 0 < i := by simp at h0; omega
          simp only [Bool.not_true, Bool.not_false, cond_true, cond_false, wrP (show i ≤ 1000000000000000000 by omega) h0', dge, dlt (show i - 1 < b.2.1.length by omega), gAt', Bool.false_or, Bool.true_and]
          cases Op.bytesLess (b.2.1.getD (i - 1) dSpot).1 b.2.1[i].1 with
          | false => simp
          | true =>
            simp only [Bool.not_true, cond_false, Bool.and_true]
            exact tail
    · unfold impl_ClaimBookOk_2r
      rw [dnlt]; rfl
    · cases hs : allI (spotI b) 0 b.2.1 with
      | false => rfl
      | true => rw [cond_true, k4 (most_of_spots hs)]; rfl
  have k0 : impl_ClaimBookOk_0 N b (b.1.length : Int) N 0 = some (allI (foeOk b) 0 b.1 && (allI (spotI b) 0 b.2.1 && allI (partI b) 0 b.2.2.2.1)) := by
    refine (lp_allI b.1 _ (foeOk b) (some false) (impl_ClaimBookOk_2 N b (b.2.1.length : Int) N 0) (fun g i hi => ?_) (fun g => ?_) N (by omega)).trans ?_
    · unfold impl_ClaimBookOk_0r foeOk
      simp only [dlt hi, dge, gAt hi, cond_true, wrS (show i ≤ 1000000000000000000 by omega), dgt0]
      rw [ob_eq (implName hN _)]
      simp only [ob_eq (implName hN b.1[i].2)]
      cases nmOk b.1[i].1 with
      | false => rfl
      | true =>
        cases nmOk b.1[i].2 with
        | false => rfl
        | true =>
          cases Op.bytesLess b.1[i].1 b.1[i].2 with
          | false => rfl
          | true =>
            cases h0 : i == 0 with
            | true => rfl
            | false =>
              have h0' : 0 < i := by simp at h0; omega
              simp only [Bool.not_true, Bool.not_false, cond_true, cond_false, wrP (show i ≤ 1000000000000000000 by omega) h0', dge, dlt (show i - 1 < b.1.length by omega), gAt', Bool.false_or, Bool.true_and]
              rw [ob_eq (implAhead _ _)]
              cases ahead (b.1.getD (i - 1) dFoe) b.1[i] <;> rfl
    · unfold impl_ClaimBookOk_0r
      rw [dnlt]; rfl
    · rw [k2]
      cases allI (foeOk b) 0 b.1 <;> rfl
  rw [k0]
  generalize decide ((b.1.length : Int) > 12) = x0
  generalize decide ((b.2.1.length : Int) > 8) = x1
  generalize decide ((b.2.2.2.1.length : Int) > 6) = x2
  generalize nmsOk b.2.2.1 12 = x3
  generalize inB b.2.2.2.2 0 1000000 = x4
  generalize allI (foeOk b) 0 b.1 = x5
  generalize allI (spotI b) 0 b.2.1 = x6
  generalize allI (partI b) 0 b.2.2.2.1 = x7
  revert x0 x1 x2 x3 x4 x5 x6 x7
  decide +kernel

theorem lp_find {α ρ : Type} (l : List α) (rd : (Int → Option ρ) → Int → Option ρ) (p : α → Bool) (f : α → ρ) (z : ρ)
    (hstep : ∀ (g : Int → Option ρ) (i : Nat) (h : i < l.length), rd g (i : Int) = bif p l[i] then some (f l[i]) else g ((i + 1 : Nat) : Int))
    (hend : ∀ (g : Int → Option ρ), rd g (l.length : Int) = some z) (N : Nat) (hN : l.length < N) : lp (fun _ => none) rd N 0 = some (((l.find? p).map f).getD z) := by
  have := lp_walk l (fun (g : Int → Option ρ) i (_ : Unit) => g (i : Int)) (fun _ => none) rd (fun i _ x => bif p x then .inr (some (f x)) else .inl ()) (fun _ => some z) (fun _ _ => True)
    (fun g i st h _ => ⟨by
      rw [hstep g i h]
      cases p l[i] <;> rfl, fun _ _ => trivial⟩) (fun g _ _ => hend g) N hN () trivial
  refine this.trans ?_
  have : ∀ (l : List α) i, outW (fun _ => some z) (walkL (fun i (_ : Unit) x => bif p x then Sum.inr (some (f x)) else Sum.inl ()) i l ()) = some (((l.find? p).map f).getD z) := by
    intro l
    induction l with
    | nil => intro i; rfl
    | cons x xs ih =>
      intro i
      simp only [walkL, List.find?_cons]
      cases p x with
      | false => simpa using ih (i + 1)
      | true => rfl
  exact this l 0
end Go.MC

/- The part of a number: plain words. -/
set_option linter.unusedVariables false
set_option linter.unusedSimpArgs false
namespace Go.MC
open Go.MC.F

/-! Which part -/
def partAt (b : Book) (n : Int) : Int := idxB (fun p : Part => p.1.1 == n) 0 b.2.2.2.1
theorem l2Part {N : Nat} (hN : lim < N) {b : Book} (hb : smB b) (n : Int) : spec_l2Part N b n = some (partAt b n) := by
  have hlim := lim_eq
  have hlp := hb.2.2.2.1
  unfold spec_l2Part spec_l2Partb partAt
  refine lp_idx b.2.2.2.1 _ (fun p : Part => p.1.1 == n) (fun g i hi => ?_) (fun g => ?_) N (by omega)
  · unfold spec_l2Part_0r
    simp only [dlt hi, dge, gAt hi, cond_true, wrS (show i ≤ 1000000000000000000 by omega)]
  · unfold spec_l2Part_0r
    rw [dnlt]; rfl
theorem implPart {N : Nat} (hN : lim < N) {b : Book} (hb : smB b) (n : Int) : impl_ClaimBook_part N b n = some (partAt b n) := by
  have hlim := lim_eq
  have hlp := hb.2.2.2.1
  unfold impl_ClaimBook_part partAt
  have h : slices_IndexFunc_ClaimPart__impl_ClaimBook_part_c1 N b.2.2.2.1 n = some (idxB (fun p : Part => p.1.1 == n) 0 b.2.2.2.1, n) := by
    unfold slices_IndexFunc_ClaimPart__impl_ClaimBook_part_c1 slices_IndexFunc_ClaimPart__impl_ClaimBook_part_c1b
    refine lp_idxC b.2.2.2.1 _ (fun p : Part => p.1.1 == n) n (fun g i hi => ?_) (fun g => ?_) N (by omega)
    · unfold slices_IndexFunc_ClaimPart__impl_ClaimBook_part_c1_0r
      simp only [dlt hi, dge, gAt hi, cond_true, wrS (show i ≤ 1000000000000000000 by omega)]
      rw [ob_eq (show impl_ClaimBook_part_c1 N b.2.2.2.1[i] n = some (b.2.2.2.1[i].1.1 == n, n) from rfl)]
    · unfold slices_IndexFunc_ClaimPart__impl_ClaimBook_part_c1_0r
      rw [dnlt]; rfl
  rw [ob_eq h]

theorem partAt_lt {b : Book} {n : Int} (h : 0 ≤ partAt b n) : partAt b n < b.2.2.2.1.length := by
  have := idxB_lt _ _ _ h
  unfold partAt
  omega
theorem sm_none : smB ([], [], [], [], 0) := by
  simp [smB, smL]
end Go.MC

/- Copies: plain words. -/
set_option linter.unusedVariables false
set_option linter.unusedSimpArgs false
namespace Go.MC
open Go.MC.F

theorem cloneS {N : Nat} {s : List Txt} (h : s.length ≤ 1048576) : slices_Clone_string N s = some s := by
  have hlim := lim_eq
  have h1 : decide ((0 + s.length) * 16 ≤ lim) = true := decide_eq_true (by omega)
  unfold slices_Clone_string
  cases s with
  | nil => exact both_self _
  | cons x xs =>
    rw [h1]
    rfl
theorem cloneU {N : Nat} {s : List Use} (h : s.length ≤ 1048576) : slices_Clone_ClaimUse N s = some s := by
  have hlim := lim_eq
  have h1 : decide ((0 + s.length) * 32 ≤ lim) = true := decide_eq_true (by omega)
  unfold slices_Clone_ClaimUse
  cases s with
  | nil => exact both_self _
  | cons x xs =>
    rw [h1]
    rfl
theorem cloneF {N : Nat} {s : List Foe} (h : s.length ≤ 1048576) : slices_Clone_ClaimFoe N s = some s := by
  have hlim := lim_eq
  have h1 : decide ((0 + s.length) * 32 ≤ lim) = true := decide_eq_true (by omega)
  unfold slices_Clone_ClaimFoe
  cases s with
  | nil => exact both_self _
  | cons x xs =>
    rw [h1]
    rfl
theorem l1Names {N : Nat} {s : List Txt} (h : s.length ≤ 1048576) : spec_l1Names N s = some s := by
  have hlim := lim_eq
  have h1 : decide ((0 + s.length) * 16 ≤ lim) = true := decide_eq_true (by omega)
  unfold spec_l1Names
  rw [h1]; rfl
theorem l1Want {N : Nat} {w : Want} (h : smW w) : spec_l1Want N w = some w := by
  have hlim := lim_eq
  have h2 := h.2.1.1
  have h1 : decide ((0 + List.length w.2.2.2.1) * 32 ≤ lim) = true := decide_eq_true (by omega)
  unfold spec_l1Want
  rw [h1, cond_true, ob_eq (l1Names h.1.1), ob_eq (l1Names h.2.2.1.1), ob_eq (l1Names h.2.2.2.1)]
  rfl
theorem implCopyWant {N : Nat} {w : Want} (h : smW w) : impl_copyWant N w = some w := by
  unfold impl_copyWant
  rw [ob_eq (cloneS h.1.1), ob_eq (cloneU h.2.1.1), ob_eq (cloneS h.2.2.1.1), ob_eq (cloneS h.2.2.2.1)]

/-- A loop that appends, and goes on. -/
theorem lp_appK {α ρ : Type} {l : List α} {rd : (Int → List α → Option ρ) → Int → List α → Option ρ} (fin : List α → Option ρ)
    (hstep : ∀ (g : Int → List α → Option ρ) (i : Nat) (out : List α) (h : i < l.length), out.length ≤ i → rd g (i : Int) out = g ((i + 1 : Nat) : Int) (out ++ [l[i]]))
    (hend : ∀ (g : Int → List α → Option ρ) (out : List α), rd g (l.length : Int) out = fin out) {N : Nat} (hN : l.length < N) : lp (fun _ _ => none) rd N 0 [] = fin l := by
  have := lp_walk l (fun (g : Int → List α → Option ρ) i (d : List α) => g (i : Int) d) (fun _ _ => none) rd (fun i d x => .inl (d ++ [x])) fin (fun i d => d.length ≤ i)
    (fun g i st h hi => ⟨hstep g i st h hi, fun st' hs => by cases hs; simp; omega⟩) (fun g d hd => hend g d) N hN [] (by simp)
  refine this.trans ?_
  have : ∀ (l : List α) i (d : List α), outW fin (walkL (fun i (d : List α) x => (Sum.inl (d ++ [x]) : List α ⊕ Option ρ)) i l d) = fin (d ++ l) := by
    intro l
    induction l with
    | nil => intro i d; simp [walkL, outW]
    | cons x xs ih =>
      intro i d
      simp only [walkL]
      rw [ih (i + 1) (d ++ [x])]
      simp
  rw [this l 0 []]; rfl
theorem l2Copy {N : Nat} (hN : lim < N) {b : Book} (hb : smB b) : spec_l2Copy N b = some b := by
  have hlim := lim_eq
  have h1 := hb.1.1
  have h2 := hb.2.1.1
  have h3 := hb.2.2.2.1
  have hg : decide ((0 + List.length b.1) * 32 ≤ lim) = true := decide_eq_true (by omega)
  unfold spec_l2Copy spec_l2Copyb
  rw [hg, cond_true, ob_eq (l1Names hb.2.2.1.1)]
  refine (lp_appK (l := b.2.1) (fun x => spec_l2Copy_2 N b b.2.2.1 0 ([] ++ b.1) x N 0 []) (fun g i out hi ho => ?_) (fun g out => ?_) (by omega)).trans ?_
  · have hm : b.2.1[i].2.2.2.2.length ≤ 1048576 := (hb.2.1.2 _ (List.getElem_mem hi)).2.1
    unfold spec_l2Copy_0r
    simp only [dlt hi, dge, gAt hi, cond_true, wrS (show i ≤ 1000000000000000000 by omega), ob_eq (l1Names (N := N) hm)]
    have hg : decide ((out.length + [(b.2.1[i].1, b.2.1[i].2.1, b.2.1[i].2.2.1, b.2.1[i].2.2.2.1, b.2.1[i].2.2.2.2)].length) * 64 ≤ lim) = true := decide_eq_true (by simp only [List.length_cons, List.length_nil]; omega)
    rw [hg, cond_true]
  · unfold spec_l2Copy_0r
    rw [dnlt]; rfl
  · refine (lp_appK (l := b.2.2.2.1) (fun x => some (b.1, b.2.1, b.2.2.1, x, b.2.2.2.2)) (fun g i out hi ho => ?_) (fun g out => ?_) (by omega)).trans rfl
    · have hp : smW b.2.2.2.1[i].1 := hb.2.2.2.2 _ (List.getElem_mem hi)
      unfold spec_l2Copy_2r
      simp only [dlt hi, dge, gAt hi, cond_true, wrS (show i ≤ 1000000000000000000 by omega), ob_eq (l1Want (N := N) hp)]
      have hg : decide ((out.length + [(b.2.2.2.1[i].1, b.2.2.2.1[i].2)].length) * 120 ≤ lim) = true := decide_eq_true (by simp only [List.length_cons, List.length_nil]; omega)
      rw [hg, cond_true]
    · unfold spec_l2Copy_2r
      rw [dnlt]; rfl
theorem implCopy {N : Nat} (hN : lim < N) {b : Book} (hb : smB b) : impl_copyBook N b = some b := by
  have hlim := lim_eq
  have h1 := hb.1.1
  have h2 := hb.2.1.1
  have h3 := hb.2.2.2.1
  unfold impl_copyBook impl_copyBookb
  rw [ob_eq (cloneF hb.1.1), ob_eq (cloneS hb.2.2.1.1)]
  refine (lp_appK (l := b.2.1) (fun x => impl_copyBook_2 N b b.1 b.2.2.1 0 x (b.2.2.2.1.length : Int) N 0 []) (fun g i out hi ho => ?_) (fun g out => ?_) (by omega)).trans ?_
  · have hm : b.2.1[i].2.2.2.2.length ≤ 1048576 := (hb.2.1.2 _ (List.getElem_mem hi)).2.1
    unfold impl_copyBook_0r
    simp only [dlt hi, dge, gAt hi, cond_true, wrS (show i ≤ 1000000000000000000 by omega), ob_eq (cloneS (N := N) hm)]
    have hg : decide ((out.length + [(b.2.1[i].1, b.2.1[i].2.1, b.2.1[i].2.2.1, b.2.1[i].2.2.2.1, b.2.1[i].2.2.2.2)].length) * 64 ≤ lim) = true := decide_eq_true (by simp only [List.length_cons, List.length_nil]; omega)
    rw [hg, cond_true]
  · unfold impl_copyBook_0r
    rw [dnlt]; rfl
  · refine (lp_appK (l := b.2.2.2.1) (fun x => some (b.1, b.2.1, b.2.2.1, x, b.2.2.2.2)) (fun g i out hi ho => ?_) (fun g out => ?_) (by omega)).trans rfl
    · have hp : smW b.2.2.2.1[i].1 := hb.2.2.2.2 _ (List.getElem_mem hi)
      unfold impl_copyBook_2r
      simp only [dlt hi, dge, gAt hi, cond_true, wrS (show i ≤ 1000000000000000000 by omega), ob_eq (implCopyWant (N := N) hp)]
      have hg : decide ((out.length + [(b.2.2.2.1[i].1, b.2.2.2.1[i].2)].length) * 120 ≤ lim) = true := decide_eq_true (by simp only [List.length_cons, List.length_nil]; omega)
      rw [hg, cond_true]
    · unfold impl_copyBook_2r
      rw [dnlt]; rfl
end Go.MC

/- The marks that are written into what is handed over: plain words. -/
set_option linter.unusedVariables false
set_option linter.unusedSimpArgs false
namespace Go.MC
open Go.MC.F

/-- Each element marked, and counted on. -/
def mkL {α : Type} (c : α → Nat) (m : α → Int → α) : List α → Int → List α
  | [], _ => []
  | x :: xs, k => m x k :: mkL c m xs (k + c x)
def sumC {α : Type} (c : α → Nat) : List α → Nat
  | [] => 0
  | x :: xs => c x + sumC c xs
theorem mkL_length {α : Type} (c : α → Nat) (m : α → Int → α) : ∀ (l : List α) (k : Int), (mkL c m l k).length = l.length
  | [], _ => rfl
  | x :: xs, k => by simp [mkL, mkL_length c m xs]
theorem sumC_le {α : Type} {c : α → Nat} {b : Nat} : ∀ {l : List α}, (∀ x ∈ l, c x ≤ b) → sumC c l ≤ l.length * b
  | [], _ => by simp [sumC]
  | x :: xs, h => by
    have h1 := h x (by simp)
    have h2 := sumC_le (c := c) (b := b) (l := xs) fun y hy => h y (by simp [hy])
    simp only [sumC, List.length_cons, Nat.add_mul, Nat.one_mul]
    omega

/-- A loop that marks. -/
theorem lp_mk {α : Type} (c : α → Nat) (m : α → Int → α) (P : α → Prop) (B : Int) {rd : (Int → Int → List α → Option (Int × List α)) → Int → Int → List α → Option (Int × List α)}
    (hstep : ∀ (g : Int → Int → List α → Option (Int × List α)) (i : Nat) (xs : List α) (k : Int) (h : i < xs.length), P xs[i] → 0 ≤ k → k + c xs[i] ≤ B → xs.length ≤ 1048576 → rd g k (i : Int) xs = g (k + c xs[i]) ((i + 1 : Nat) : Int) (xs.set i (m xs[i] k)))
    (hend : ∀ (g : Int → Int → List α → Option (Int × List α)) (xs : List α) (k : Int), rd g k (xs.length : Int) xs = some (k, xs)) {N : Nat} {l : List α} (hP : ∀ x ∈ l, P x) (hl : l.length ≤ 1048576) {k : Int} (hk : 0 ≤ k) (hB : k + sumC c l ≤ B) (hN : l.length < N) :
    lp (fun _ _ _ => none) rd N k 0 l = some (k + sumC c l, mkL c m l k) := by
  suffices H : ∀ (suf pre : List α) (n : Nat) (k : Int), suf.length < n → (∀ x ∈ suf, P x) → (pre ++ suf).length ≤ 1048576 → 0 ≤ k → k + sumC c suf ≤ B → lp (fun _ _ _ => none) rd n k (pre.length : Int) (pre ++ suf) = some (k + sumC c suf, pre ++ mkL c m suf k) by
    have := H l [] N k hN hP (by simpa using hl) hk hB
    simpa using this
  intro suf
  induction suf with
  | nil =>
    intro pre n k h1 h2 h3 h4 h5
    obtain ⟨n, rfl⟩ : ∃ j, n = j + 1 := ⟨n - 1, by simp at h1; omega⟩
    rw [List.append_nil]
    show rd _ k (pre.length : Int) pre = _
    rw [hend]
    simp [sumC, mkL]
  | cons x suf ih =>
    intro pre n k h1 h2 h3 h4 h5
    obtain ⟨n, rfl⟩ : ∃ j, n = j + 1 := ⟨n - 1, by omega⟩
    have hlt : pre.length < (pre ++ x :: suf).length := by simp
    have hx : (pre ++ x :: suf)[pre.length] = x := by simp
    simp only [sumC] at h5
    show rd _ k (pre.length : Int) (pre ++ x :: suf) = _
    rw [hstep _ pre.length _ k hlt (by rw [hx]; exact h2 x (by simp)) h4 (by rw [hx]; omega) h3]
    rw [hx]
    have hset : (pre ++ x :: suf).set pre.length (m x k) = (pre ++ [m x k]) ++ suf := by simp
    have := ih (pre ++ [m x k]) n (k + c x) (by simp at h1; omega) (fun y hy => h2 y (by simp [hy])) (by simp at h3 ⊢; omega) (by omega) (by omega)
    rw [hset]
    rw [show ((pre.length + 1 : Nat) : Int) = ((pre ++ [m x k]).length : Int) by simp]
    refine this.trans ?_
    simp only [sumC, mkL, List.append_assoc, List.singleton_append]
    rw [show k + (c x : Int) + (sumC c suf : Int) = k + ((c x + sumC c suf : Nat) : Int) by omega]

/-- A loop that looks at the marks. -/
theorem lp_hd {α : Type} (c : α → Nat) (m : α → Int → α) (P : α → Prop) (B : Int) {l : List α} {k : Int} {rd : (Int → Int → Option Int) → Int → Int → Option Int}
    (hstep : ∀ (g : Int → Int → Option Int) (i : Nat) (x : α) (k' : Int) (h : i < (mkL c m l k).length), P x → 0 ≤ k' → k' + c x ≤ B → (mkL c m l k)[i] = m x k' → rd g k' (i : Int) = g (k' + c x) ((i + 1 : Nat) : Int))
    (hend : ∀ (g : Int → Int → Option Int) (k' : Int), rd g k' (l.length : Int) = some k') {N : Nat} (hP : ∀ x ∈ l, P x) (hk : 0 ≤ k) (hB : k + sumC c l ≤ B) (hN : l.length < N) :
    lp (fun _ _ => none) rd N k 0 = some (k + sumC c l) := by
  suffices H : ∀ (suf : List α) (pre : List α) (n : Nat) (k' : Int), suf.length < n → (∀ x ∈ suf, P x) → 0 ≤ k' → k' + sumC c suf ≤ B → mkL c m l k = pre ++ mkL c m suf k' → pre.length + suf.length = l.length → lp (fun _ _ => none) rd n k' (pre.length : Int) = some (k' + sumC c suf) by
    have := H l [] N k hN hP hk hB rfl (by simp)
    simpa using this
  intro suf
  induction suf with
  | nil =>
    intro pre n k' h1 h2 h3 h4 h5 h6
    obtain ⟨n, rfl⟩ : ∃ j, n = j + 1 := ⟨n - 1, by simp at h1; omega⟩
    show rd _ k' (pre.length : Int) = _
    rw [show pre.length = l.length by simpa using h6, hend]
    simp [sumC]
  | cons x suf ih =>
    intro pre n k' h1 h2 h3 h4 h5 h6
    obtain ⟨n, rfl⟩ : ∃ j, n = j + 1 := ⟨n - 1, by omega⟩
    have hlt : pre.length < (mkL c m l k).length := by rw [h5]; simp [mkL]
    have hx : (mkL c m l k)[pre.length] = m x k' := by simp [h5, mkL]
    simp only [sumC] at h4
    show rd _ k' (pre.length : Int) = _
    rw [hstep _ pre.length x k' hlt (h2 x (by simp)) h3 (by omega) hx]
    have := ih (pre ++ [m x k']) n (k' + c x) (by simp at h1; omega) (fun y hy => h2 y (by simp [hy])) (by omega) (by omega) (by rw [h5]; simp [mkL]) (by simp at h6 ⊢; omega)
    rw [show ((pre.length + 1 : Nat) : Int) = ((pre ++ [m x k']).length : Int) by simp]
    refine this.trans ?_
    simp only [sumC]
    rw [show k' + (c x : Int) + (sumC c suf : Int) = k' + ((c x + sumC c suf : Nat) : Int) by omega]

/-- As far as it is counted. -/
def mB : Int := 100000000000000
theorem mB_eq : mB = 100000000000000 := rfl

/-! The text of a mark -/
theorem markText_tot {N : Nat} (hN : lim < N) {k : Int} (h0 : 0 ≤ k) (h1 : k ≤ mB) : ∃ t, laws_markText N k = some t := by
  have hlim := lim_eq
  have hm := mB_eq
  unfold laws_markText laws_markTextb
  cases decide (k ≤ 0) with
  | true => exact ⟨_, rfl⟩
  | false =>
    suffices H : ∀ (n : Nat) (k : Int) (out : Txt), 0 ≤ k → k < n → (out.length : Int) + k ≤ 110000000000000 → ∃ t, lp (fun _ _ => none) (fun next => laws_markText_0r N next) n k out = some t by
      exact H N k [] h0 (by omega) (by simp; omega)
    intro n
    induction n with
    | zero => intro k out h2 h3; omega
    | succ n ih =>
      intro k out h2 h3 h4
      show ∃ t, laws_markText_0r N _ k out = some t
      unfold laws_markText_0r
      by_cases hk : k > 0
      · rw [decide_eq_true hk, cond_true]
        have hg : decide ((List.map byteOf [IntKind.u8.wrap (IntKind.i64.wrap (48 + Int.tmod k 10))]).length + List.length out ≤ lim) = true := decide_eq_true (by simp; omega)
        rw [hg, cond_true]
        have hd : Int.tdiv k 10 = k / 10 := Int.tdiv_eq_ediv_of_nonneg h2
        rw [hd, wr (by omega) (by omega)]
        exact ih (k / 10) _ (by omega) (by omega) (by simp; omega)
      · rw [decide_eq_false hk, cond_false]
        have hg : ([109] : List UInt8).length + List.length out ≤ lim := by simp; omega
        refine ⟨[109] ++ out, ?_⟩
        have hg2 := decide_eq_true hg
        generalize hd : decide (([109] : List UInt8).length + List.length out ≤ lim) = d at hg2
        subst hg2
        rfl
def mkT (N : Nat) (k : Int) : Txt := (laws_markText N k).getD []
theorem markText {N : Nat} (hN : lim < N) {k : Int} (h0 : 0 ≤ k) (h1 : k ≤ mB) : laws_markText N k = some (mkT N k) := by
  obtain ⟨t, h⟩ := markText_tot hN h0 h1
  rw [mkT, h]; rfl
theorem sAt {α : Type} {l : List α} {i : Nat} (x : α) : l.set (Int.toNat (i : Int)) x = l.set i x := by rw [Int.toNat_natCast]
theorem gS' {α : Type} {l : List α} {i : Nat} {x : α} (h : i < l.length) (d : α) : (l.set i x).getD i d = x := by
  rw [List.getD_eq_getElem?_getD, List.getElem?_set_self h]; rfl
theorem sS' {α : Type} {l : List α} {i : Nat} {x y : α} : (l.set i x).set i y = l.set i y := List.set_set ..

/-! Texts, numbers -/
def mkTs (N : Nat) (l : List Txt) (k : Int) : List Txt := mkL (fun _ => 1) (fun _ k => mkT N k) l k
theorem sum1 {α : Type} : ∀ l : List α, sumC (fun _ => 1) l = l.length
  | [] => rfl
  | x :: xs => by simp [sumC, sum1 xs]; omega
theorem wr1 {k : Int} (h0 : 0 ≤ k) (h1 : k ≤ mB + 10) : IntKind.i64.wrap (k + 1) = k + 1 := by
  have := mB_eq
  exact wr (by omega) (by omega)
theorem markStringS {N : Nat} (hN : lim < N) {l : List Txt} (hl : l.length ≤ 1048576) {k : Int} (h0 : 0 ≤ k) (h1 : k + l.length ≤ mB) : laws_markStringS N l k = some (k + l.length, mkTs N l k) := by
  have hlim := lim_eq
  have hm := mB_eq
  unfold laws_markStringS laws_markStringSb
  have := lp_mk (fun _ : Txt => 1) (fun _ k => mkT N k) (fun _ => True) mB (rd := fun next => laws_markStringS_0r N next) (fun g i xs k h _ hk hB hxl => ?_) (fun g xs k => ?_) (N := N) (l := l) (fun _ _ => trivial) hl h0 (by rw [sum1]; exact h1) (by omega)
  · rw [sum1] at this
    exact this
  · unfold laws_markStringS_0r
    simp only [dlt h, dge, cond_true, wrS (show i ≤ 1000000000000000000 by omega), sAt]
    rw [ob_eq (markText hN hk (by omega)), wr1 hk (by omega)]
    rfl
  · unfold laws_markStringS_0r
    rw [dnlt]; rfl

/-! Foes -/
def mkF (N : Nat) (l : List Foe) (k : Int) : List Foe := mkL (fun _ => 2) (fun _ k => (mkT N k, mkT N (k + 1))) l k
theorem sum2 {α : Type} (n : Nat) : ∀ l : List α, sumC (fun _ => n) l = l.length * n
  | [] => by simp [sumC]
  | x :: xs => by simp [sumC, sum2 n xs, Nat.add_mul]; omega
theorem markClaimFoeS {N : Nat} (hN : lim < N) {l : List Foe} (hl : l.length ≤ 1048576) {k : Int} (h0 : 0 ≤ k) (h1 : k + l.length * 2 ≤ mB) : laws_markClaimFoeS N l k = some (k + ((l.length * 2 : Nat) : Int), mkF N l k) := by
  have hlim := lim_eq
  have hm := mB_eq
  unfold laws_markClaimFoeS laws_markClaimFoeSb
  have := lp_mk (fun _ : Foe => 2) (fun _ k => (mkT N k, mkT N (k + 1))) (fun _ => True) mB (rd := fun next => laws_markClaimFoeS_0r N next) (fun g i xs k h _ hk hB hxl => ?_) (fun g xs k => ?_) (N := N) (l := l) (fun _ _ => trivial) hl h0 (by rw [sum2]; omega) (by omega)
  · rw [sum2] at this
    exact this
  · unfold laws_markClaimFoeS_0r
    have hB : k + 2 ≤ mB := hB
    simp only [dlt h, dge, cond_true, wrS (show i ≤ 1000000000000000000 by omega), sAt, gAt', List.length_set, wr1 hk (show k ≤ mB + 10 by omega), wr1 (show 0 ≤ k + 1 by omega) (show k + 1 ≤ mB + 10 by omega), ob_eq (markText hN hk (show k ≤ mB by omega)), ob_eq (markText hN (show 0 ≤ k + 1 by omega) (show k + 1 ≤ mB by omega)), gS' h, sS']
    rw [show k + 1 + 1 = k + 2 by omega]
    rfl
  · unfold laws_markClaimFoeS_0r
    rw [dnlt]; rfl
end Go.MC

/- The marks of spots, wants, parts, books: plain words. -/
set_option linter.unusedVariables false
set_option linter.unusedSimpArgs false
namespace Go.MC
open Go.MC.F

theorem wrN {k : Int} (j : Nat) (h0 : 0 ≤ k) (h1 : k + j ≤ mB) : IntKind.i64.wrap (k + j + 1) = k + ((j + 1 : Nat) : Int) := by
  have := mB_eq
  rw [wr (by omega) (by omega)]; omega

/-! Spots -/
def mkS1 (N : Nat) (s : Spot) (k : Int) : Spot := (mkT N k, k + 1, k + 2, k + 3, mkTs N s.2.2.2.2 (k + 4))
def cS1 (s : Spot) : Nat := 4 + s.2.2.2.2.length
def mkSs (N : Nat) (l : List Spot) (k : Int) : List Spot := mkL cS1 (mkS1 N) l k
theorem markClaimSpotS {N : Nat} (hN : lim < N) {l : List Spot} (hl : l.length ≤ 1048576) (hx : ∀ s ∈ l, smS s) {k : Int} (h0 : 0 ≤ k) (h1 : k + sumC cS1 l ≤ mB) : laws_markClaimSpotS N l k = some (k + sumC cS1 l, mkSs N l k) := by
  have hlim := lim_eq
  have hm := mB_eq
  unfold laws_markClaimSpotS laws_markClaimSpotSb
  refine lp_mk cS1 (mkS1 N) smS mB (rd := fun next => laws_markClaimSpotS_0r N next) (fun g i xs k h hs hk hB hxl => ?_) (fun g xs k => ?_) (N := N) (l := l) hx hl h0 h1 (by omega)
  · unfold laws_markClaimSpotS_0r
    have hlen : xs[i].2.2.2.2.length ≤ 1048576 := hs.2.1
    simp only [cS1] at hB ⊢
    simp only [dlt h, dge, cond_true, wrS (show i ≤ 1000000000000000000 by omega), sAt, gAt', List.length_set, ob_eq (markText hN hk (show k ≤ mB by omega)), wr1 hk (show k ≤ mB + 10 by omega), wr1 (show 0 ≤ k + 1 by omega) (show k + 1 ≤ mB + 10 by omega), wr1 (show 0 ≤ k + 1 + 1 by omega) (show k + 1 + 1 ≤ mB + 10 by omega), wr1 (show 0 ≤ k + 1 + 1 + 1 by omega) (show k + 1 + 1 + 1 ≤ mB + 10 by omega), gS' h, sS']
    have e0 : xs.getD i dSpot = xs[i] := by rw [List.getD_eq_getElem?_getD, List.getElem?_eq_getElem h]; rfl
    simp only [e0]
    rw [ob_eq (markStringS hN hlen (show 0 ≤ k + 1 + 1 + 1 + 1 by omega) (show k + 1 + 1 + 1 + 1 + (xs[i].2.2.2.2.length : Int) ≤ mB by omega))]
    unfold mkS1
    rw [show k + 1 + 1 + 1 + 1 = k + 4 by omega, show k + 1 + 1 + 1 = k + 3 by omega, show k + 1 + 1 = k + 2 by omega, show k + 4 + (xs[i].2.2.2.2.length : Int) = k + ((4 + xs[i].2.2.2.2.length : Nat) : Int) by omega]
  · unfold laws_markClaimSpotS_0r
    rw [dnlt]; rfl

/-! Uses -/
def mkU (N : Nat) (l : List Use) (k : Int) : List Use := mkL (fun _ => 3) (fun _ k => (mkT N k, k + 1, k + 2)) l k
theorem markClaimUseS {N : Nat} (hN : lim < N) {l : List Use} (hl : l.length ≤ 1048576) {k : Int} (h0 : 0 ≤ k) (h1 : k + l.length * 3 ≤ mB) : laws_markClaimUseS N l k = some (k + ((l.length * 3 : Nat) : Int), mkU N l k) := by
  have hlim := lim_eq
  have hm := mB_eq
  unfold laws_markClaimUseS laws_markClaimUseSb
  have := lp_mk (fun _ : Use => 3) (fun _ k => (mkT N k, k + 1, k + 2)) (fun _ => True) mB (rd := fun next => laws_markClaimUseS_0r N next) (fun g i xs k h _ hk hB hxl => ?_) (fun g xs k => ?_) (N := N) (l := l) (fun _ _ => trivial) hl h0 (by rw [sum2]; omega) (by omega)
  · rw [sum2] at this
    exact this
  · unfold laws_markClaimUseS_0r
    have hB : k + 3 ≤ mB := hB
    simp only [dlt h, dge, cond_true, wrS (show i ≤ 1000000000000000000 by omega), sAt, gAt', List.length_set, wr1 hk (show k ≤ mB + 10 by omega), wr1 (show 0 ≤ k + 1 by omega) (show k + 1 ≤ mB + 10 by omega), wr1 (show 0 ≤ k + 1 + 1 by omega) (show k + 1 + 1 ≤ mB + 10 by omega), ob_eq (markText hN hk (show k ≤ mB by omega)), gS' h, sS']
    rw [show k + 1 + 1 + 1 = k + 3 by omega, show k + 1 + 1 = k + 2 by omega]
    rfl
  · unfold laws_markClaimUseS_0r
    rw [dnlt]; rfl

/-! Parts -/
def kP (w : Want) (k : Int) : Int := k + ((2 + w.2.2.1.length + w.2.2.2.1.length * 3 + w.2.2.2.2.1.length + w.2.2.2.2.2.length : Nat) : Int)
def mkW (N : Nat) (w : Want) (k : Int) : Want :=
  (k, k + 1, mkTs N w.2.2.1 (k + 2), mkU N w.2.2.2.1 (k + 2 + w.2.2.1.length), mkTs N w.2.2.2.2.1 (k + 2 + w.2.2.1.length + ((w.2.2.2.1.length * 3 : Nat) : Int)), mkTs N w.2.2.2.2.2 (k + 2 + w.2.2.1.length + ((w.2.2.2.1.length * 3 : Nat) : Int) + w.2.2.2.2.1.length))
def mkP1 (N : Nat) (p : Part) (k : Int) : Part := (mkW N p.1 k, Int.tmod (kP p.1 k) 3 == 0)
def cP1 (p : Part) : Nat := 2 + p.1.2.2.1.length + p.1.2.2.2.1.length * 3 + p.1.2.2.2.2.1.length + p.1.2.2.2.2.2.length + 1
def mkPs (N : Nat) (l : List Part) (k : Int) : List Part := mkL cP1 (mkP1 N) l k
theorem markClaimPartS {N : Nat} (hN : lim < N) {l : List Part} (hl : l.length ≤ 1048576) (hx : ∀ p ∈ l, smP p) {k : Int} (h0 : 0 ≤ k) (h1 : k + sumC cP1 l ≤ mB) : laws_markClaimPartS N l k = some (k + sumC cP1 l, mkPs N l k) := by
  have hlim := lim_eq
  have hm := mB_eq
  unfold laws_markClaimPartS laws_markClaimPartSb
  refine lp_mk cP1 (mkP1 N) smP mB (rd := fun next => laws_markClaimPartS_0r N next) (fun g i xs k h hs hk hB hxl => ?_) (fun g xs k => ?_) (N := N) (l := l) hx hl h0 h1 (by omega)
  · unfold laws_markClaimPartS_0r
    have l1 : xs[i].1.2.2.1.length ≤ 1048576 := hs.1.1
    have l2 : xs[i].1.2.2.2.1.length ≤ 1048576 := hs.2.1.1
    have l3 : xs[i].1.2.2.2.2.1.length ≤ 1048576 := hs.2.2.1.1
    have l4 : xs[i].1.2.2.2.2.2.length ≤ 1048576 := hs.2.2.2.1
    simp only [cP1] at hB ⊢
    have e0 : xs.getD i dPart = xs[i] := by rw [List.getD_eq_getElem?_getD, List.getElem?_eq_getElem h]; rfl
    simp only [dlt h, dge, cond_true, wrS (show i ≤ 1000000000000000000 by omega), sAt, gAt', List.length_set, wr1 hk (show k ≤ mB + 10 by omega), wr1 (show 0 ≤ k + 1 by omega) (show k + 1 ≤ mB + 10 by omega), gS' h, sS', e0]
    rw [show k + 1 + 1 = k + 2 by omega]
    rw [ob_eq (markStringS hN l1 (show 0 ≤ k + 2 by omega) (show k + 2 + (xs[i].1.2.2.1.length : Int) ≤ mB by omega))]
    simp only [gS' h, sS']
    rw [ob_eq (markClaimUseS hN l2 (show 0 ≤ k + 2 + (xs[i].1.2.2.1.length : Int) by omega) (show k + 2 + (xs[i].1.2.2.1.length : Int) + (xs[i].1.2.2.2.1.length : Int) * 3 ≤ mB by omega))]
    simp only [gS' h, sS']
    rw [ob_eq (markStringS hN l3 (show 0 ≤ k + 2 + (xs[i].1.2.2.1.length : Int) + ((xs[i].1.2.2.2.1.length * 3 : Nat) : Int) by omega) (show k + 2 + (xs[i].1.2.2.1.length : Int) + ((xs[i].1.2.2.2.1.length * 3 : Nat) : Int) + (xs[i].1.2.2.2.2.1.length : Int) ≤ mB by omega))]
    simp only [gS' h, sS']
    rw [ob_eq (markStringS hN l4 (show 0 ≤ k + 2 + (xs[i].1.2.2.1.length : Int) + ((xs[i].1.2.2.2.1.length * 3 : Nat) : Int) + (xs[i].1.2.2.2.2.1.length : Int) by omega) (show k + 2 + (xs[i].1.2.2.1.length : Int) + ((xs[i].1.2.2.2.1.length * 3 : Nat) : Int) + (xs[i].1.2.2.2.2.1.length : Int) + (xs[i].1.2.2.2.2.2.length : Int) ≤ mB by omega))]
    have ek : k + 2 + (xs[i].1.2.2.1.length : Int) + ((xs[i].1.2.2.2.1.length * 3 : Nat) : Int) + (xs[i].1.2.2.2.2.1.length : Int) + (xs[i].1.2.2.2.2.2.length : Int) = kP xs[i].1 k := by unfold kP; omega
    simp only [gS' h, sS', List.length_set, dlt h, dge, cond_true, ek]
    have hk2 : 0 ≤ kP xs[i].1 k ∧ kP xs[i].1 k ≤ mB := by unfold kP; omega
    rw [wr1 hk2.1 (by omega)]
    have e3 : kP xs[i].1 k + 1 = k + ((2 + xs[i].1.2.2.1.length + xs[i].1.2.2.2.1.length * 3 + xs[i].1.2.2.2.2.1.length + xs[i].1.2.2.2.2.2.length + 1 : Nat) : Int) := by unfold kP; omega
    rw [e3]
    rfl
  · unfold laws_markClaimPartS_0r
    rw [dnlt]; rfl

/-! Books -/
def cB (b : Book) : Nat := b.1.length * 2 + sumC cS1 b.2.1 + b.2.2.1.length + sumC cP1 b.2.2.2.1
theorem cB_le {b : Book} (h : smB b) : cB b ≤ 90000000000000 := by
  have h1 := h.1.1
  have h2 := h.2.1.1
  have h3 : b.2.2.1.length ≤ 1048576 := h.2.2.1.1
  have h4 := h.2.2.2.1
  have h5 := sumC_le (c := cS1) (b := 1048580) (l := b.2.1) fun s hs => by
    have : s.2.2.2.2.length ≤ 1048576 := (h.2.1.2 s hs).2.1
    unfold cS1; omega
  have h6 := sumC_le (c := cP1) (b := 6291459) (l := b.2.2.2.1) fun p hp => by
    have hp := h.2.2.2.2 p hp
    have l1 : p.1.2.2.1.length ≤ 1048576 := hp.1.1
    have l2 : p.1.2.2.2.1.length ≤ 1048576 := hp.2.1.1
    have l3 : p.1.2.2.2.2.1.length ≤ 1048576 := hp.2.2.1.1
    have l4 : p.1.2.2.2.2.2.length ≤ 1048576 := hp.2.2.2.1
    unfold cP1; omega
  have h7 : b.2.1.length * 1048580 ≤ 1048576 * 1048580 := Nat.mul_le_mul_right _ h2
  have h8 : b.2.2.2.1.length * 6291459 ≤ 1048576 * 6291459 := Nat.mul_le_mul_right _ h4
  unfold cB
  omega
def mkB (N : Nat) (b : Book) (k : Int) : List Foe × List Spot × List Txt × List Part :=
  (mkF N b.1 k, mkSs N b.2.1 (k + ((b.1.length * 2 : Nat) : Int)), mkTs N b.2.2.1 (k + ((b.1.length * 2 : Nat) : Int) + sumC cS1 b.2.1), mkPs N b.2.2.2.1 (k + ((b.1.length * 2 : Nat) : Int) + sumC cS1 b.2.1 + b.2.2.1.length))
theorem markClaimBook {N : Nat} (hN : lim < N) {b : Book} (h : smB b) {k : Int} (h0 : 0 ≤ k) (h1 : k ≤ 1000000000000) : laws_markClaimBook N b.1 b.2.1 b.2.2.1 b.2.2.2.1 b.2.2.2.2 k = some (k + cB b, mkB N b k) := by
  have hm := mB_eq
  have hc := cB_le h
  have hcb : cB b = b.1.length * 2 + sumC cS1 b.2.1 + b.2.2.1.length + sumC cP1 b.2.2.2.1 := rfl
  unfold laws_markClaimBook
  rw [ob_eq (markClaimFoeS hN h.1.1 h0 (by omega))]
  simp only
  rw [ob_eq (markClaimSpotS hN h.2.1.1 h.2.1.2 (by omega) (by omega))]
  simp only
  rw [ob_eq (markStringS hN h.2.2.1.1 (by omega) (by omega))]
  simp only
  rw [ob_eq (markClaimPartS hN h.2.2.2.1 h.2.2.2.2 (by omega) (by omega))]
  rw [hcb]
  rw [show k + ((b.1.length * 2 : Nat) : Int) + (sumC cS1 b.2.1 : Int) + (b.2.2.1.length : Int) + (sumC cP1 b.2.2.2.1 : Int) = k + ((b.1.length * 2 + sumC cS1 b.2.1 + b.2.2.1.length + sumC cP1 b.2.2.2.1 : Nat) : Int) by omega]
  rfl
end Go.MC

/- Looking at the marks: plain words. -/
set_option linter.unusedVariables false
set_option linter.unusedSimpArgs false
namespace Go.MC
open Go.MC.F

theorem dnl {α : Type} {l m : List α} (h : m.length = l.length) : decide ((l.length : Int) < (m.length : Int)) = false := by rw [h]; exact dnlt _
theorem heldStringS {N : Nat} (hN : lim < N) {l : List Txt} (hl : l.length ≤ 1048576) {k : Int} (h0 : 0 ≤ k) (h1 : k + l.length ≤ mB) : laws_heldStringS N (mkTs N l k) k = some (k + l.length) := by
  have hlim := lim_eq
  have hm := mB_eq
  unfold laws_heldStringS laws_heldStringSb
  have hlen := mkL_length (fun _ : Txt => 1) (fun _ k => mkT N k) l k
  have := lp_hd (fun _ : Txt => 1) (fun _ k => mkT N k) (fun _ => True) mB (l := l) (k := k) (rd := fun next => laws_heldStringS_0r N (mkTs N l k) next) (fun g i x k' h _ hk hB he => ?_) (fun g k' => ?_) (N := N) (fun _ _ => trivial) h0 (by rw [sum1]; exact h1) (by omega)
  · rw [sum1] at this
    exact this
  · have hi : i ≤ 1048576 := by omega
    have hB : k' + 1 ≤ mB := hB
    unfold laws_heldStringS_0r mkTs
    simp only [dlt h, dge, gAt h, cond_true, wrS (show i ≤ 1000000000000000000 by omega), ob_eq (markText hN hk (show k' ≤ mB by omega)), he, wr1 hk (show k' ≤ mB + 10 by omega), beq_self_eq_true, Bool.not_true, cond_false]
    rfl
  · unfold laws_heldStringS_0r mkTs
    rw [dnl hlen]
    rfl
theorem heldClaimFoeS {N : Nat} (hN : lim < N) {l : List Foe} (hl : l.length ≤ 1048576) {k : Int} (h0 : 0 ≤ k) (h1 : k + l.length * 2 ≤ mB) : laws_heldClaimFoeS N (mkF N l k) k = some (k + ((l.length * 2 : Nat) : Int)) := by
  have hlim := lim_eq
  have hm := mB_eq
  unfold laws_heldClaimFoeS laws_heldClaimFoeSb
  have hlen := mkL_length (fun _ : Foe => 2) (fun _ k => (mkT N k, mkT N (k + 1))) l k
  have := lp_hd (fun _ : Foe => 2) (fun _ k => (mkT N k, mkT N (k + 1))) (fun _ => True) mB (l := l) (k := k) (rd := fun next => laws_heldClaimFoeS_0r N (mkF N l k) next) (fun g i x k' h _ hk hB he => ?_) (fun g k' => ?_) (N := N) (fun _ _ => trivial) h0 (by rw [sum2]; omega) (by omega)
  · rw [sum2] at this
    exact this
  · have hi : i ≤ 1048576 := by omega
    have hB : k' + 2 ≤ mB := hB
    unfold laws_heldClaimFoeS_0r mkF
    simp only [dlt h, dge, gAt h, cond_true, wrS (show i ≤ 1000000000000000000 by omega), wr1 hk (show k' ≤ mB + 10 by omega), wr1 (show 0 ≤ k' + 1 by omega) (show k' + 1 ≤ mB + 10 by omega), ob_eq (markText hN hk (show k' ≤ mB by omega)), ob_eq (markText hN (show 0 ≤ k' + 1 by omega) (show k' + 1 ≤ mB by omega)), he, beq_self_eq_true, Bool.not_true, cond_false]
    rw [show k' + 1 + 1 = k' + 2 by omega]
    rfl
  · unfold laws_heldClaimFoeS_0r mkF
    rw [dnl hlen]
    rfl
theorem heldClaimUseS {N : Nat} (hN : lim < N) {l : List Use} (hl : l.length ≤ 1048576) {k : Int} (h0 : 0 ≤ k) (h1 : k + l.length * 3 ≤ mB) : laws_heldClaimUseS N (mkU N l k) k = some (k + ((l.length * 3 : Nat) : Int)) := by
  have hlim := lim_eq
  have hm := mB_eq
  unfold laws_heldClaimUseS laws_heldClaimUseSb
  have hlen := mkL_length (fun _ : Use => 3) (fun _ k => (mkT N k, k + 1, k + 2)) l k
  have := lp_hd (fun _ : Use => 3) (fun _ k => (mkT N k, k + 1, k + 2)) (fun _ => True) mB (l := l) (k := k) (rd := fun next => laws_heldClaimUseS_0r N (mkU N l k) next) (fun g i x k' h _ hk hB he => ?_) (fun g k' => ?_) (N := N) (fun _ _ => trivial) h0 (by rw [sum2]; omega) (by omega)
  · rw [sum2] at this
    exact this
  · have hi : i ≤ 1048576 := by omega
    have hB : k' + 3 ≤ mB := hB
    unfold laws_heldClaimUseS_0r mkU
    simp only [dlt h, dge, gAt h, cond_true, wrS (show i ≤ 1000000000000000000 by omega), wr1 hk (show k' ≤ mB + 10 by omega), wr1 (show 0 ≤ k' + 1 by omega) (show k' + 1 ≤ mB + 10 by omega), wr1 (show 0 ≤ k' + 1 + 1 by omega) (show k' + 1 + 1 ≤ mB + 10 by omega), ob_eq (markText hN hk (show k' ≤ mB by omega)), he, beq_self_eq_true, bne_self_eq_false, Bool.not_true, cond_false]
    rw [show k' + 1 + 1 + 1 = k' + 3 by omega, show k' + 1 + 1 = k' + 2 by omega]
    simp only [bne_self_eq_false, cond_false]
    rfl
  · unfold laws_heldClaimUseS_0r mkU
    rw [dnl hlen]
    rfl
theorem nneg {k : Int} (h : 0 ≤ k) : decide (k < 0) = false := decide_eq_false (by omega)
theorem heldClaimSpotS {N : Nat} (hN : lim < N) {l : List Spot} (hl : l.length ≤ 1048576) (hx : ∀ s ∈ l, smS s) {k : Int} (h0 : 0 ≤ k) (h1 : k + sumC cS1 l ≤ mB) : laws_heldClaimSpotS N (mkSs N l k) k = some (k + sumC cS1 l) := by
  have hlim := lim_eq
  have hm := mB_eq
  unfold laws_heldClaimSpotS laws_heldClaimSpotSb
  have hlen := mkL_length cS1 (mkS1 N) l k
  refine lp_hd cS1 (mkS1 N) smS mB (l := l) (k := k) (rd := fun next => laws_heldClaimSpotS_0r N (mkSs N l k) next) (fun g i x k' h hs hk hB he => ?_) (fun g k' => ?_) (N := N) hx h0 h1 (by omega)
  · have hi : i ≤ 1048576 := by omega
    have hlen : x.2.2.2.2.length ≤ 1048576 := hs.2.1
    simp only [cS1] at hB ⊢
    unfold laws_heldClaimSpotS_0r mkSs
    simp only [dlt h, dge, gAt h, cond_true, wrS (show i ≤ 1000000000000000000 by omega), wr1 hk (show k' ≤ mB + 10 by omega), wr1 (show 0 ≤ k' + 1 by omega) (show k' + 1 ≤ mB + 10 by omega), wr1 (show 0 ≤ k' + 1 + 1 by omega) (show k' + 1 + 1 ≤ mB + 10 by omega), wr1 (show 0 ≤ k' + 1 + 1 + 1 by omega) (show k' + 1 + 1 + 1 ≤ mB + 10 by omega), ob_eq (markText hN hk (show k' ≤ mB by omega)), he]
    unfold mkS1
    rw [show k' + 1 + 1 + 1 + 1 = k' + 4 by omega, show k' + 1 + 1 + 1 = k' + 3 by omega, show k' + 1 + 1 = k' + 2 by omega]
    simp only [beq_self_eq_true, bne_self_eq_false, Bool.not_true, cond_false, ob_eq (heldStringS hN hlen (show 0 ≤ k' + 4 by omega) (show k' + 4 + (x.2.2.2.2.length : Int) ≤ mB by omega)), nneg (show 0 ≤ k' + 4 + (x.2.2.2.2.length : Int) by omega)]
    rw [show k' + 4 + (x.2.2.2.2.length : Int) = k' + ((4 + x.2.2.2.2.length : Nat) : Int) by omega]
  · unfold laws_heldClaimSpotS_0r mkSs
    rw [dnl hlen]
    rfl
theorem heldClaimPartS {N : Nat} (hN : lim < N) {l : List Part} (hl : l.length ≤ 1048576) (hx : ∀ p ∈ l, smP p) {k : Int} (h0 : 0 ≤ k) (h1 : k + sumC cP1 l ≤ mB) : laws_heldClaimPartS N (mkPs N l k) k = some (k + sumC cP1 l) := by
  have hlim := lim_eq
  have hm := mB_eq
  unfold laws_heldClaimPartS laws_heldClaimPartSb
  have hlen := mkL_length cP1 (mkP1 N) l k
  refine lp_hd cP1 (mkP1 N) smP mB (l := l) (k := k) (rd := fun next => laws_heldClaimPartS_0r N (mkPs N l k) next) (fun g i x k' h hs hk hB he => ?_) (fun g k' => ?_) (N := N) hx h0 h1 (by omega)
  · have hi : i ≤ 1048576 := by omega
    have l1 : x.1.2.2.1.length ≤ 1048576 := hs.1.1
    have l2 : x.1.2.2.2.1.length ≤ 1048576 := hs.2.1.1
    have l3 : x.1.2.2.2.2.1.length ≤ 1048576 := hs.2.2.1.1
    have l4 : x.1.2.2.2.2.2.length ≤ 1048576 := hs.2.2.2.1
    simp only [cP1] at hB ⊢
    unfold laws_heldClaimPartS_0r mkPs
    simp only [dlt h, dge, gAt h, cond_true, wrS (show i ≤ 1000000000000000000 by omega), wr1 hk (show k' ≤ mB + 10 by omega), wr1 (show 0 ≤ k' + 1 by omega) (show k' + 1 ≤ mB + 10 by omega), he]
    unfold mkP1 mkW
    rw [show k' + 1 + 1 = k' + 2 by omega]
    have ek : k' + 2 + (x.1.2.2.1.length : Int) + ((x.1.2.2.2.1.length * 3 : Nat) : Int) + (x.1.2.2.2.2.1.length : Int) + (x.1.2.2.2.2.2.length : Int) = kP x.1 k' := by unfold kP; omega
    have hk2 : 0 ≤ kP x.1 k' ∧ kP x.1 k' ≤ mB := by unfold kP; omega
    have e3 : kP x.1 k' + 1 = k' + ((2 + x.1.2.2.1.length + x.1.2.2.2.1.length * 3 + x.1.2.2.2.2.1.length + x.1.2.2.2.2.2.length + 1 : Nat) : Int) := by unfold kP; omega
    simp only [beq_self_eq_true, bne_self_eq_false, Bool.not_true, cond_false,
      ob_eq (heldStringS hN l1 (show 0 ≤ k' + 2 by omega) (show k' + 2 + (x.1.2.2.1.length : Int) ≤ mB by omega)), nneg (show 0 ≤ k' + 2 + (x.1.2.2.1.length : Int) by omega),
      ob_eq (heldClaimUseS hN l2 (show 0 ≤ k' + 2 + (x.1.2.2.1.length : Int) by omega) (show k' + 2 + (x.1.2.2.1.length : Int) + (x.1.2.2.2.1.length : Int) * 3 ≤ mB by omega)), nneg (show 0 ≤ k' + 2 + (x.1.2.2.1.length : Int) + ((x.1.2.2.2.1.length * 3 : Nat) : Int) by omega),
      ob_eq (heldStringS hN l3 (show 0 ≤ k' + 2 + (x.1.2.2.1.length : Int) + ((x.1.2.2.2.1.length * 3 : Nat) : Int) by omega) (show k' + 2 + (x.1.2.2.1.length : Int) + ((x.1.2.2.2.1.length * 3 : Nat) : Int) + (x.1.2.2.2.2.1.length : Int) ≤ mB by omega)), nneg (show 0 ≤ k' + 2 + (x.1.2.2.1.length : Int) + ((x.1.2.2.2.1.length * 3 : Nat) : Int) + (x.1.2.2.2.2.1.length : Int) by omega),
      ob_eq (heldStringS hN l4 (show 0 ≤ k' + 2 + (x.1.2.2.1.length : Int) + ((x.1.2.2.2.1.length * 3 : Nat) : Int) + (x.1.2.2.2.2.1.length : Int) by omega) (show k' + 2 + (x.1.2.2.1.length : Int) + ((x.1.2.2.2.1.length * 3 : Nat) : Int) + (x.1.2.2.2.2.1.length : Int) + (x.1.2.2.2.2.2.length : Int) ≤ mB by omega)), ek, nneg hk2.1]
    rw [wr1 hk2.1 (by omega), e3]
  · unfold laws_heldClaimPartS_0r mkPs
    rw [dnl hlen]
    rfl
theorem heldClaimBook {N : Nat} (hN : lim < N) {b : Book} (h : smB b) {k : Int} (h0 : 0 ≤ k) (h1 : k ≤ 1000000000000) (n : Int) : laws_heldClaimBook N ((mkB N b k).1, (mkB N b k).2.1, (mkB N b k).2.2.1, (mkB N b k).2.2.2, n) k = some (k + cB b) := by
  have hm := mB_eq
  have hc := cB_le h
  have hcb : cB b = b.1.length * 2 + sumC cS1 b.2.1 + b.2.2.1.length + sumC cP1 b.2.2.2.1 := rfl
  unfold laws_heldClaimBook mkB
  simp only
  rw [ob_eq (heldClaimFoeS hN h.1.1 h0 (by omega)), nneg (by omega), cond_false]
  rw [ob_eq (heldClaimSpotS hN h.2.1.1 h.2.1.2 (by omega) (by omega)), nneg (by omega), cond_false]
  rw [ob_eq (heldStringS hN h.2.2.1.1 (by omega) (by omega)), nneg (by omega), cond_false]
  rw [ob_eq (heldClaimPartS hN h.2.2.2.1 h.2.2.2.2 (by omega) (by omega)), nneg (by omega), cond_false]
  rw [hcb]
  rw [show k + ((b.1.length * 2 : Nat) : Int) + (sumC cS1 b.2.1 : Int) + (b.2.2.1.length : Int) + (sumC cP1 b.2.2.2.1 : Int) = k + ((b.1.length * 2 + sumC cS1 b.2.1 + b.2.2.1.length + sumC cP1 b.2.2.2.1 : Nat) : Int) by omega]
end Go.MC

/- Where a spot is; a spot that is turned. -/
set_option linter.unusedVariables false
set_option linter.unusedSimpArgs false
namespace Go.MC
open Go.MC.F

def idxS (n : Txt) (sp : List Spot) : Int := idxB (fun s : Spot => s.1 == n) 0 sp
theorem idxS_map : ∀ (sp : List Spot) (n : Txt) (i : Nat), idxB (fun s : Spot => s.1 == n) i sp = idxB (fun x => x == n) i (sp.map (·.1))
  | [], _, _ => rfl
  | s :: sp, n, i => by simp only [List.map_cons, idxB]; rw [idxS_map sp n (i + 1)]
theorem idxS_names {sp sq : List Spot} (h : sp.map (·.1) = sq.map (·.1)) (n : Txt) : idxS n sp = idxS n sq := by
  unfold idxS; rw [idxS_map, idxS_map, h]
theorem map_set_same {α β : Type} {l : List α} {k : Nat} {v : α} (f : α → β) (h : (hk : k < l.length) → f v = f l[k]) : (l.set k v).map f = l.map f := by
  refine List.ext_getElem (by simp) fun i h1 h2 => ?_
  simp only [List.length_map, List.length_set] at h1 h2
  simp only [List.getElem_map, List.getElem_set]
  by_cases e : k = i
  · subst e; simp [h h2]
  · simp [e]
theorem walk_fold {σ α ρ : Type} (f : σ → α → σ) (fin : σ → Option ρ) : ∀ (xs : List α) (i : Nat) (d : σ), outW fin (walkL (fun _ d x => (Sum.inl (f d x) : σ ⊕ Option ρ)) i xs d) = fin (xs.foldl f d)
  | [], _, _ => rfl
  | x :: xs, i, d => by
    simp only [walkL, List.foldl_cons]
    exact walk_fold f fin xs (i + 1) (f d x)
end Go.MC

/- The law of Over, of data. -/
set_option linter.unusedVariables false
set_option linter.unusedSimpArgs false
namespace Go.MC
open Go.MC.F

theorem wrA (a b : Int) : IntKind.i64.wrap (a + IntKind.i64.wrap b) = IntKind.i64.wrap (a + b) := by
  simp only [IntKind.wrap_i64]; omega
theorem wrB (a b : Int) : IntKind.i64.wrap (IntKind.i64.wrap a + b) = IntKind.i64.wrap (a + b) := by
  simp only [IntKind.wrap_i64]; omega
theorem wrC (a b : Int) : IntKind.i64.wrap (IntKind.i64.wrap a - b) = IntKind.i64.wrap (a - b) := by
  simp only [IntKind.wrap_i64]; omega
theorem wrD (a b : Int) : IntKind.i64.wrap (a - IntKind.i64.wrap b) = IntKind.i64.wrap (a - b) := by
  simp only [IntKind.wrap_i64]; omega
/-- What is settled. -/
def overU (w : Want) (moved : Int) (done : Bool) (u : Use) (s : Spot) : Spot :=
  (s.1, s.2.1, (bif u.2.1 == 1 then IntKind.i64.wrap (s.2.2.1 + u.2.2 - moved) else bif u.2.1 == 2 then IntKind.i64.wrap (s.2.2.1 + moved) else s.2.2.1),
    (bif u.2.1 == 1 then IntKind.i64.wrap (s.2.2.2.1 - moved) else bif u.2.1 == 2 then IntKind.i64.wrap (s.2.2.2.1 - u.2.2 + moved) else s.2.2.2.1), (bif w.2.1 == 2 then (bif done then [] else s.2.2.2.2) else s.2.2.2.2))
def overS (w : Want) (moved : Int) (done : Bool) (sp : List Spot) (u : Use) : List Spot := sp.set (idxS u.1 sp).toNat (overU w moved done u (sp.getD (idxS u.1 sp).toNat dSpot))
theorem l4Settle {N : Nat} (s : Spot) (w : Want) (u : Use) (moved : Int) (done : Bool) : spec_l4Settle N s w u moved done = some (overU w moved done u s) := by
  unfold spec_l4Settle overU
  by_cases r1 : u.2.1 = 1
  · have q1 : (u.2.1 == 1) = true := by rw [r1]; rfl
    have q2 : (u.2.1 == 2) = false := by rw [r1]; rfl
    simp only [q1, q2, cond_true, cond_false, wrC]
    cases w.2.1 == 2 <;> cases done <;> rfl
  · have q1 : (u.2.1 == 1) = false := beq_eq_false_iff_ne.2 r1
    simp only [q1, cond_false]
    cases q2 : u.2.1 == 2
    · cases w.2.1 == 2 <;> cases done <;> rfl
    · simp only [cond_true, wrB]
      cases w.2.1 == 2 <;> cases done <;> rfl
def movedU (moved : Int) (u : Use) : Bool := !((u.2.1 != 3) && decide (moved > u.2.2))
def movedOk (w : Want) (moved : Int) : Bool := !decide (moved < 0) && w.2.2.2.1.all (movedU moved)
theorem all_allI {α : Type} (p : α → Bool) (l : List α) : allI (fun _ x => p x) 0 l = l.all p := by
  rw [Bool.eq_iff_iff, allI_iff, List.all_eq_true]
  constructor
  · intro h x hx
    obtain ⟨i, hi⟩ := List.getElem?_of_mem hx
    exact h i x hi
  · intro h j x hx
    exact h x (List.mem_of_getElem? hx)
theorem l4Moved {N : Nat} (hN : lim < N) {w : Want} (hw : smW w) (moved : Int) : spec_l4Moved N w moved = some (movedOk w moved) := by
  have hlim := lim_eq
  have h1 := hw.2.1.1
  unfold spec_l4Moved spec_l4Movedb movedOk
  cases decide (moved < 0) with
  | true => rfl
  | false =>
    refine (lp_allI w.2.2.2.1 _ (fun _ u => movedU moved u) (some false) (some true) (fun g i hi => ?_) (fun g => ?_) N (by omega)).trans ?_
    · unfold spec_l4Moved_0r movedU
      simp only [dlt hi, dge, gAt hi, cond_true, wrS (show i ≤ 1000000000000000000 by omega)]
      cases w.2.2.2.1[i].2.1 != 3 <;> cases decide (moved > w.2.2.2.1[i].2.2) <;> rfl
    · unfold spec_l4Moved_0r
      rw [dnlt]; rfl
    · rw [all_allI]
      cases w.2.2.2.1.all (movedU moved) <;> rfl

structure OvI (b : Book) (sp : List Spot) : Prop where
  names : sp.map (·.1) = b.2.1.map (·.1)
  good : ∀ s ∈ sp, smS s
theorem OvI.len {b : Book} {sp : List Spot} (h : OvI b sp) : sp.length = b.2.1.length := by
  have := congrArg List.length h.names
  simpa using this
theorem OvI.step {b : Book} {sp : List Spot} (h : OvI b sp) (w : Want) (moved : Int) (done : Bool) (u : Use) : OvI b (overS w moved done sp u) := by
  refine ⟨?_, fun s hs => ?_⟩
  · rw [← h.names]
    refine map_set_same _ fun hk => ?_
    unfold overU
    simp only [List.getD_eq_getElem?_getD, List.getElem?_eq_getElem hk, Option.getD_some]
  · by_cases hk : (idxS u.1 sp).toNat < sp.length
    · rcases List.mem_or_eq_of_mem_set hs with hs | hs
      · exact h.good s hs
      · subst hs
        have hg := h.good _ (getD_mem hk dSpot)
        refine ⟨hg.1, ?_⟩
        unfold overU
        simp only
        cases w.2.1 == 2 <;> cases done
        · exact hg.2
        · exact hg.2
        · exact hg.2
        · exact ⟨by simp, fun x hx => by simp at hx⟩
    · unfold overS at hs
      rw [List.set_eq_of_length_le (by omega)] at hs
      exact h.good s hs
theorem OvI.at {b : Book} {sp : List Spot} (h : OvI b sp) {w : Want} (hk : knowsB b w = true) {j : Nat} (hj : j < w.2.2.2.1.length) : atB b w.2.2.2.1[j].1 = idxS w.2.2.2.1[j].1 sp ∧ 0 ≤ idxS w.2.2.2.1[j].1 sp ∧ idxS w.2.2.2.1[j].1 sp < (sp.length : Int) := by
  have h1 := at_of_knows hk hj
  have e : atB b w.2.2.2.1[j].1 = idxS w.2.2.2.1[j].1 sp := idxS_names h.names.symm _
  rw [← e, h.len]
  exact ⟨rfl, h1⟩
theorem fold_ovI {b : Book} {w : Want} {moved : Int} {done : Bool} : ∀ (us : List Use) (sp : List Spot), OvI b sp → OvI b (us.foldl (overS w moved done) sp)
  | [], sp, h => h
  | u :: us, sp, h => fold_ovI us _ (h.step w moved done u)
def partX (b : Book) (n : Int) : Part := b.2.2.2.1.getD (partAt b n).toNat dPart
def overBk (b : Book) (n : Int) (moved : Int) (done : Bool) : Book :=
  (b.1, (partX b n).1.2.2.2.1.foldl (overS (partX b n).1 moved done) b.2.1, b.2.2.1, b.2.2.2.1.eraseIdx (partAt b n).toNat, b.2.2.2.2)
def overB (b : Book) (n : Int) (moved : Int) (done : Bool) : Book × Int :=
  bif bookOk b then (bif decide (partAt b n < 0) then (b, 3) else bif !movedOk (partX b n).1 moved then (b, 2) else bif !(partX b n).2 then (b, 12) else (overBk b n moved done, 0)) else (([], [], [], [], 0), 1)
theorem part_knows {b : Book} (h : bookOk b = true) {p : Part} (hp : p ∈ b.2.2.2.1) : wantOk p.1 = true ∧ knowsB b p.1 = true := by
  simp only [bookOk, partsOk, Bool.and_eq_true] at h
  obtain ⟨i, hi⟩ := List.getElem?_of_mem hp
  have := allI_iff.1 h.2.2.2.2.2 i p hi
  simp only [partI, partOk, Bool.and_eq_true] at this
  exact ⟨this.1.2.1, this.1.2.2.1⟩
theorem partX_mem {b : Book} {n : Int} (h : 0 ≤ partAt b n) : partX b n ∈ b.2.2.2.1 := by
  have := partAt_lt h
  exact getD_mem (show (partAt b n).toNat < b.2.2.2.1.length by omega) _
theorem over_sm {b : Book} (hb : smB b) (n moved : Int) (done : Bool) : smB (overBk b n moved done) := by
  have hi := fold_ovI (w := (partX b n).1) (moved := moved) (done := done) (partX b n).1.2.2.2.1 b.2.1 (⟨rfl, hb.2.1.2⟩ : OvI b b.2.1)
  refine ⟨hb.1, ⟨?_, hi.good⟩, hb.2.2.1, ?_, fun p hp => hb.2.2.2.2 p (List.mem_of_mem_eraseIdx hp)⟩
  · have := hi.len
    have h2 := hb.2.1.1
    exact Nat.le_trans (Nat.le_of_eq this) h2
  · exact Nat.le_trans (List.length_eraseIdx_le _ _) hb.2.2.2.1

theorem specOver {N : Nat} (hN : lim < N) {b : Book} (hb : smB b) (n moved : Int) (done : Bool) : spec_ClaimOver N b n moved done = some (overB b n moved done) := by
  have hlim := lim_eq
  have hlp := hb.2.2.2.1
  have hls := hb.2.1.1
  unfold spec_ClaimOver spec_ClaimOverb overB
  rw [ob_eq (specBookOk hN hb)]
  cases hbk : bookOk b with
  | false => rfl
  | true =>
    simp only [Bool.not_true, cond_false, cond_true]
    rw [ob_eq (l2Copy hN hb), ob_eq (l2Part hN hb n)]
    by_cases h : partAt b n < 0
    · simp only [decide_eq_true h]; rfl
    · have h0 : 0 ≤ partAt b n := by omega
      have h1 : decide (0 ≤ partAt b n) = true := decide_eq_true h0
      have hlt := partAt_lt h0
      have h2 : decide (partAt b n < (b.2.2.2.1.length : Int)) = true := decide_eq_true hlt
      have hx : partX b n ∈ b.2.2.2.1 := partX_mem h0
      have hw : smW (partX b n).1 := hb.2.2.2.2 _ hx
      have hk := (part_knows hbk hx).2
      have hu := hw.2.1.1
      simp only [decide_eq_false h, h1, h2, cond_false, cond_true]
      rw [show b.2.2.2.1.getD (partAt b n).toNat dPart = partX b n from rfl, ob_eq (l4Moved hN hw moved)]
      cases movedOk (partX b n).1 moved with
      | false => rfl
      | true =>
        simp only [Bool.not_true, cond_false]
        cases (partX b n).2 with
        | false => rfl
        | true =>
          simp only [Bool.not_true, cond_false]
          have := lp_walk (partX b n).1.2.2.2.1 (fun (g : Int → List Spot → Option (Book × Int)) i (d : List Spot) => g (i : Int) d) (fun _ _ => none)
            (fun next => spec_ClaimOver_0r N b moved done b (partAt b n) 0 (partX b n).1.1 (partX b n).1.2.1 (partX b n).1.2.2.1 (partX b n).1.2.2.2.1 (partX b n).1.2.2.2.2.1 (partX b n).1.2.2.2.2.2 next)
            (fun _ d u => .inl (overS (partX b n).1 moved done d u)) (fun d => ob (F.spec_l2Copy N (b.1, d, b.2.2.1, b.2.2.2.1.eraseIdx (partAt b n).toNat, b.2.2.2.2)) ([], [], [], [], Int.ofNat 0) fun r => some (r, 0)) (fun _ d => OvI b d)
            (fun g i d h hi => ⟨by
              obtain ⟨e0, h1, h2⟩ := hi.at hk h
              unfold spec_ClaimOver_0r
              simp only [dlt h, dge, gAt h, cond_true]
              rw [ob_eq (l2Spot hN hls _), e0]
              have hp : overS (partX b n).1 moved done d (partX b n).1.2.2.2.1[i] = d.set (idxS (partX b n).1.2.2.2.1[i].1 d).toNat (overU (partX b n).1 moved done (partX b n).1.2.2.2.1[i] (d.getD (idxS (partX b n).1.2.2.2.1[i].1 d).toNat dSpot)) := rfl
              simp only [decide_eq_true h1, decide_eq_true h2, cond_true]
              rw [ob_eq (l4Settle _ ((partX b n).1.1, (partX b n).1.2.1, (partX b n).1.2.2.1, (partX b n).1.2.2.2.1, (partX b n).1.2.2.2.2.1, (partX b n).1.2.2.2.2.2) _ _ _), wrS (show i ≤ 1000000000000000000 by omega), hp]
              rfl, fun st' hs => by
              cases hs
              exact hi.step _ _ _ _⟩) (fun g d hd => by
              unfold spec_ClaimOver_0r
              have ew : IntKind.i64.wrap (partAt b n + 1) = partAt b n + 1 := wr (by omega) (by omega)
              have et : (partAt b n + 1).toNat = (partAt b n).toNat + 1 := by omega
              simp only [dnlt, cond_false, h1, ew, decide_eq_true (show partAt b n ≤ (b.2.2.2.1.length : Int) by omega), decide_eq_true (show (0 : Int) ≤ partAt b n + 1 by omega), decide_eq_true (show partAt b n + 1 ≤ (b.2.2.2.1.length : Int) by omega), decide_eq_true (show (b.2.2.2.1.length : Int) ≤ (b.2.2.2.1.length : Int) by omega), cond_true]
              rw [decide_eq_true (by simp; omega), decide_eq_true (by simp; omega), cond_true, cond_true]
              have ee : [] ++ List.drop (Int.toNat 0) (List.take (partAt b n).toNat b.2.2.2.1) ++ List.drop (partAt b n + 1).toNat (List.take (b.2.2.2.1.length : Int).toNat b.2.2.2.1) = b.2.2.2.1.eraseIdx (partAt b n).toNat := by
                rw [et, List.eraseIdx_eq_take_drop_succ]
                simp
              rw [ee]) N (by omega) b.2.1 ⟨rfl, hb.2.1.2⟩
          refine this.trans ?_
          rw [walk_fold]
          exact ob_eq (l2Copy hN (over_sm hb n moved done))
theorem implOver {N : Nat} (hN : lim < N) {b : Book} (hb : smB b) (n moved : Int) (done : Bool) : impl_ClaimOver N b n moved done = some (overB b n moved done) := by
  have hlim := lim_eq
  have hlp := hb.2.2.2.1
  have hls := hb.2.1.1
  unfold impl_ClaimOver impl_ClaimOverb overB
  rw [ob_eq (implBookOk hN hb)]
  cases hbk : bookOk b with
  | false => rfl
  | true =>
    simp only [Bool.not_true, cond_false, cond_true]
    rw [ob_eq (implCopy hN hb), ob_eq (implPart hN hb n)]
    by_cases h : partAt b n < 0
    · simp only [decide_eq_true h]; rfl
    · have h0 : 0 ≤ partAt b n := by omega
      have h1 : decide (0 ≤ partAt b n) = true := decide_eq_true h0
      have hlt := partAt_lt h0
      have h2 : decide (partAt b n < (b.2.2.2.1.length : Int)) = true := decide_eq_true hlt
      have hx : partX b n ∈ b.2.2.2.1 := partX_mem h0
      have hw : smW (partX b n).1 := hb.2.2.2.2 _ hx
      have hk := (part_knows hbk hx).2
      have hu := hw.2.1.1
      simp only [decide_eq_false h, h1, h2, cond_false, cond_true]
      rw [show b.2.2.2.1.getD (partAt b n).toNat dPart = partX b n from rfl]
      unfold movedOk
      cases decide (moved < 0) with
      | true => rfl
      | false =>
        simp only [cond_false, Bool.not_false, Bool.true_and]
        refine (lp_allI (partX b n).1.2.2.2.1 _ (fun _ u => movedU moved u) (some (b, 2)) (bif !(partX b n).2 then some (b, 12) else some (overBk b n moved done, 0)) (fun g i hi => ?_) (fun g => ?_) N (by omega)).trans ?_
        · unfold impl_ClaimOver_0r movedU
          simp only [dlt hi, dge, gAt hi, cond_true, wrS (show i ≤ 1000000000000000000 by omega)]
          cases (partX b n).1.2.2.2.1[i].2.1 != 3 <;> cases decide (moved > (partX b n).1.2.2.2.1[i].2.2) <;> rfl
        · unfold impl_ClaimOver_0r
          have ew : IntKind.i64.wrap (partAt b n + 1) = partAt b n + 1 := wr (by omega) (by omega)
          simp only [dnlt, cond_false, h1, h2, ew, cond_true, decide_true, show b.2.2.2.1.getD (partAt b n).toNat dPart = partX b n from rfl]
          cases (partX b n).2 with
          | false => rfl
          | true =>
            simp only [Bool.not_true, cond_false]
            have := lp_walk (partX b n).1.2.2.2.1 (fun (g : Int → List Spot → Option (Book × Int)) i (d : List Spot) => g (i : Int) d) (fun _ _ => none)
              (fun next => impl_ClaimOver_2r N moved done b 0 (partX b n).1.1 (partX b n).1.2.1 (partX b n).1.2.2.1 (partX b n).1.2.2.2.1 (partX b n).1.2.2.2.2.1 (partX b n).1.2.2.2.2.2 ((partX b n).1.2.2.2.1.length : Int) [] [] [] [] (b.2.2.2.1.eraseIdx (partAt b n).toNat) next)
              (fun _ d u => .inl (overS (partX b n).1 moved done d u)) (fun d => some ((b.1, d, b.2.2.1, b.2.2.2.1.eraseIdx (partAt b n).toNat, b.2.2.2.2), 0)) (fun _ d => OvI b d)
              (fun g i d h hi => ⟨by
                obtain ⟨e0, h1, h2⟩ := hi.at hk h
                have hld : d.length ≤ 1048576 := by rw [hi.len]; exact hls
                unfold impl_ClaimOver_2r
                simp only [dlt h, dge, gAt h, cond_true]
                rw [ob_eq (show impl_ClaimBook_at N (b.1, d, b.2.2.1, b.2.2.2.1.eraseIdx (partAt b n).toNat, b.2.2.2.2) (partX b n).1.2.2.2.1[i].1 = some (idxS (partX b n).1.2.2.2.1[i].1 d) from implAt hN (b := (b.1, d, b.2.2.1, b.2.2.2.1.eraseIdx (partAt b n).toNat, b.2.2.2.2)) hld _)]
                have hp : overS (partX b n).1 moved done d (partX b n).1.2.2.2.1[i] = d.set (idxS (partX b n).1.2.2.2.1[i].1 d).toNat (overU (partX b n).1 moved done (partX b n).1.2.2.2.1[i] (d.getD (idxS (partX b n).1.2.2.2.1[i].1 d).toNat dSpot)) := rfl
                obtain ⟨k, ek⟩ : ∃ k : Nat, idxS (partX b n).1.2.2.2.1[i].1 d = (k : Int) := ⟨_, (Int.toNat_of_nonneg h1).symm⟩
                rw [ek] at h1 h2 hp ⊢
                rw [Int.toNat_natCast] at hp
                have hkd : k < d.length := by omega
                simp only [dlt hkd, dge, cond_true, List.length_set, gAt', sAt, wrA, wrD, wrS (show i ≤ 1000000000000000000 by omega), gS' hkd, sS']
                rw [hp]
                unfold overU
                have z1 : ∀ a c : Int, a + (c - moved) = a + c - moved := fun a c => by omega
                have z2 : ∀ a c : Int, a - (c - moved) = a - c + moved := fun a c => by omega
                simp only [z1, z2]
                have hself : d = d.set k (d.getD k dSpot) := by
                  rw [List.getD_eq_getElem?_getD, List.getElem?_eq_getElem hkd, Option.getD_some, List.set_getElem_self]
                by_cases r1 : (partX b n).1.2.2.2.1[i].2.1 = 1
                · have q1 : ((partX b n).1.2.2.2.1[i].2.1 == 1) = true := by rw [r1]; rfl
                  have q2 : ((partX b n).1.2.2.2.1[i].2.1 == 2) = false := by rw [r1]; rfl
                  simp only [q1, q2, cond_true, cond_false]
                  cases (partX b n).1.2.1 == 2 <;> cases done <;> rfl
                · have q1 : ((partX b n).1.2.2.2.1[i].2.1 == 1) = false := beq_eq_false_iff_ne.2 r1
                  simp only [q1, cond_false]
                  cases q2 : (partX b n).1.2.2.2.1[i].2.1 == 2
                  · simp only [cond_false]
                    cases (partX b n).1.2.1 == 2 <;> cases done
                    · exact congrArg (g _) hself
                    · exact congrArg (g _) hself
                    · exact congrArg (g _) hself
                    · rfl
                  · simp only [cond_true]
                    cases (partX b n).1.2.1 == 2 <;> cases done <;> rfl, fun st' hs => by
                cases hs
                exact hi.step _ _ _ _⟩) (fun g d hd => by
                unfold impl_ClaimOver_2r
                rw [dnlt]; rfl) N (by omega) b.2.1 ⟨rfl, hb.2.1.2⟩
            refine this.trans ?_
            rw [walk_fold]
            rfl
        · rw [all_allI]
          cases (partX b n).1.2.2.2.1.all (movedU moved) <;> cases (partX b n).2 <;> rfl
theorem overB_sm {b : Book} (hb : smB b) (n moved : Int) (done : Bool) : smB (overB b n moved done).1 := by
  unfold overB
  cases bookOk b with
  | false => exact sm_none
  | true =>
    by_cases h : partAt b n < 0
    · simp only [decide_eq_true h, cond_true]; exact hb
    · simp only [decide_eq_false h, cond_true, cond_false]
      cases movedOk (partX b n).1 moved with
      | false => exact hb
      | true =>
        cases (partX b n).2 with
        | false => exact hb
        | true => exact over_sm hb n moved done
theorem lawOver {N : Nat} (hN : lim < N) {b : Book} {n moved : Int} {done : Bool} (hb : fitB b) : laws_FnExactClaimOver N b n moved done = some true := by
  obtain ⟨r, h1, h2, h3, h4⟩ := szClaimBook hN hb (left := 1048576) (by omega) (by omega)
  unfold laws_FnExactClaimOver
  rw [ob_eq h1]
  by_cases hn : r < 0
  · rw [decide_eq_true hn]; rfl
  · rw [decide_eq_false hn]
    have hs := h4 (by omega)
    have hm := mB_eq
    have hg := overB_sm hs n moved done
    simp only [cond_false, ob_eq (toClaimBook hN hs), ob_eq (specOver hN hs n moved done), ob_eq (implOver hN hs n moved done), ob_eq (eqClaimBook hN hs), ob_eq (eqClaimBook hN hg), ob_eq (markClaimBook hN hs (show (0 : Int) ≤ 1 by omega) (show (1 : Int) ≤ 1000000000000 by omega)), ob_eq (markClaimBook hN hg (show (0 : Int) ≤ 1 by omega) (show (1 : Int) ≤ 1000000000000 by omega)), ob_eq (heldClaimBook hN hg (show (0 : Int) ≤ 1 by omega) (show (1 : Int) ≤ 1000000000000 by omega) _), nneg (show (0 : Int) ≤ 1 + (cB b : Int) by omega), nneg (show (0 : Int) ≤ 1 + (cB (overB b n moved done).1 : Int) by omega), bne_self_eq_false, Bool.not_true, Bool.false_eq_true]
end Go.MC

/- The law FnExactClaimOver returns true on every input: what the program tells is what the document tells, by the contracts of all functions that it reaches and a proof in plain Lean. There is no condition. -/
namespace Go.Proofs.YtaihjhaabnfenaaGreat.fnExactClaimOver
open Go.ChangeShapes Go.WideShapes Go.ChangeAt Go.RowKit Go.MC
open Go.ChangeMaps (open_string shut_string)
set_option linter.unusedVariables false
theorem own : ownKnob Tryz.prog.godebug = none := by kernel_rfl
theorem laidOut : laidOutB Tryz.prog = true := by kernel_rfl
set_option maxRecDepth 100000 in
theorem lifted (os : Os) (started : os.Started) (H : Type) (enc : TypeId × Value → H) :
    ReturnsInHanded {} Tryz.checked os 6 .any (Rows.fnExactClaimOverSpec.pre6 enc Tryz.prog Tryz.f6 Rows.fnExactClaimOverRow.domain false) (Rows.fnExactClaimOverSpec.post enc Tryz.prog Tryz.f6 false true false false) := by
  refine returnsInHanded_of_change_sized (C := Tryz.checked) own started (by kernel_rfl) Tryz.func6
    (ChangeSpec.witness6 (enc := enc) (C := Tryz.checked) false ⟨#[], #[.agg #[.slice none 0 0, .slice none 0 0, .slice none 0 0, .slice none 0 0, .int .i64 0], .int .i64 0, .int .i64 0, .bool false], []⟩ 8 (by kernel_rfl) (by kernel_rfl) (by kernel_rfl) (by kernel_rfl)) ?_
  intro W base args ds gs before hval0 hW hcnd hsz0 _
  have hsz : (DataW.weightsEach Tryz.prog (Tryz.f6.params.toList ++ Rows.fnExactClaimOverSpec.plain.varTypes Tryz.prog) (ds ++ gs)).all (· ≤ reachBytes) = true := hsz0
  have hval : ∀ (j : Nat) t v, Tryz.f6.params[j]? = some t → args[j]? = some v → Value.okWide Tryz.prog W .any base t v := hval0
  have hW' := hW
  obtain ⟨p, q, hA0, hV, rfl, hfz, hnd⟩ := hW
  have hA : DataW.TrodAll enc Tryz.prog W 0 (fun _ => true) true Tryz.f6.params.toList args.toList ds p := hA0
  rw [Tryz.params6] at hA hval hsz
  obtain ⟨v0, vs0, d0, ds0, p0, q0, hargs, rfl, rfl, h0, r0⟩ := trodAll_cons hA
  obtain ⟨v1, vs1, d1, ds1, p1, q1, rfl, rfl, rfl, h1, r1⟩ := trodAll_cons r0
  obtain ⟨v2, vs2, d2, ds2, p2, q2, rfl, rfl, rfl, h2, r2⟩ := trodAll_cons r1
  obtain ⟨v3, vs3, d3, ds3, p3, q3, rfl, rfl, rfl, h3, r3⟩ := trodAll_cons r2
  obtain ⟨rfl, rfl, rfl⟩ := trodAll_nil r3
  obtain rfl : args = #[v0, v1, v2, v3] := by cases args; simp_all
  obtain ⟨rfl, rfl⟩ := trodVars_none hV
  have lt0 : ∀ x ∈ p0, x.block < W.heap.size := by obtain ⟨m, hm⟩ := h0; exact DataW.trod_lt m _ _ _ hm
  obtain ⟨x0, cs0, hx0, hs0⟩ := arg_rd (n := 12) (t := tBook) (by kernel_rfl) (hval 0 56 v0 rfl rfl) h0 hsz (j := 0) rfl rfl
  have lt1 : ∀ x ∈ p1, x.block < W.heap.size := by obtain ⟨m, hm⟩ := h1; exact DataW.trod_lt m _ _ _ hm
  obtain ⟨x1, cs1, hx1, hs1⟩ := arg_rd (n := 12) (t := tInt) (by kernel_rfl) (hval 1 3 v1 rfl rfl) h1 hsz (j := 1) rfl rfl
  have lt2 : ∀ x ∈ p2, x.block < W.heap.size := by obtain ⟨m, hm⟩ := h2; exact DataW.trod_lt m _ _ _ hm
  obtain ⟨x2, cs2, hx2, hs2⟩ := arg_rd (n := 12) (t := tInt) (by kernel_rfl) (hval 2 3 v2 rfl rfl) h2 hsz (j := 2) rfl rfl
  have lt3 : ∀ x ∈ p3, x.block < W.heap.size := by obtain ⟨m, hm⟩ := h3; exact DataW.trod_lt m _ _ _ hm
  obtain ⟨x3, cs3, hx3, hs3⟩ := arg_rd (n := 12) (t := (.bool)) (by kernel_rfl) (hval 3 4 v3 rfl rfl) h3 hsz (j := 3) rfl rfl
  clear hA0 hval0 hsz0 hsz
  have law : F.laws_FnExactClaimOver (lim + 1) x0 x1 x2 x3 = some true := lawOver (N := lim + 1) (Nat.lt_succ_self _) (fit_book hx0.fit)
  have hout := summ_out4 (f := F.laws_FnExactClaimOver (lim + 1)) law (rs := [.d .bool false]) (ts := [.bool]) (fz := false) (a := true) (b := false) (c := false) (d := false) (t := tBook) (u := tInt) (v := tInt) (w := (.bool)) (x := x0) (y := x1) (z := x2) (q := x3) (r := true)
  refine (law_calls (con_laws_FnExactClaimOver (lim + 1)) (args := [v0, v1, v2, v3]) (ds := [⟨tBook, x0⟩, ⟨tInt, x1⟩, ⟨tInt, x2⟩, ⟨(.bool), x3⟩]) ⟨v0, [v1, v2, v3], [v1, v2, v3], rfl, rfl, ⟨v1, [v2, v3], [v2, v3], rfl, rfl, ⟨v2, [v3], [v3], rfl, rfl, ⟨v3, [], [], rfl, rfl, ⟨rfl, rfl⟩⟩⟩⟩⟩
    ⟨v0, [v1, v2, v3], x0, [⟨tInt, x1⟩, ⟨tInt, x2⟩, ⟨(.bool), x3⟩], cs0, rfl, rfl, hx0, hs0, ⟨v1, [v2, v3], x1, [⟨tInt, x2⟩, ⟨(.bool), x3⟩], cs1, rfl, rfl, hx1, hs1, ⟨v2, [v3], x2, [⟨(.bool), x3⟩], cs2, rfl, rfl, hx2, hs2, ⟨v3, [], x3, [], cs3, rfl, rfl, hx3, hs3, ⟨rfl, rfl, rfl, rfl⟩⟩⟩⟩⟩ hout.1 hout.2 rfl).mono fun e W' ⟨he, bel⟩ => ?_
  subst he
  exact ⟨_, rfl, _, _, _, [], _, [], hW', trodAll_mk1 (shut_bool Tryz.underlying4 _), (trodAll_cons_mk (Below.trod laidOut (by kernel_rfl) (of_decide_eq_true (by kernel_rfl)) h0 bel lt0) (trodAll_cons_mk (Below.trod laidOut (by kernel_rfl) (of_decide_eq_true (by kernel_rfl)) h1 bel lt1) (trodAll_cons_mk (Below.trod laidOut (by kernel_rfl) (of_decide_eq_true (by kernel_rfl)) h2 bel lt2) (trodAll_cons_mk (Below.trod laidOut (by kernel_rfl) (of_decide_eq_true (by kernel_rfl)) h3 bel lt3) trodAll_mk0)))), rfl, bel.frame _, fun h => by cases h⟩
theorem over : Rows.fnExactClaimOverRow.holds Tryz.pinned (OpenSpec.ofChange Rows.fnExactClaimOverSpec) :=
  OpenClaim.holds_of_wide 6 Tryz.f6 rfl rfl rfl rfl rfl rfl rfl ⟨rfl, rfl, rfl, rfl, rfl⟩ rfl rfl rfl rfl rfl (by kernel_rfl) Tryz.func6 (by kernel_rfl)
    (of_decide_eq_true (by kernel_rfl)) (by unfold Func.isWrapper; first | (rw [if_pos (by decide +kernel)]; kernel_rfl) | (rw [if_neg (by decide +kernel)]; exact ⟨rfl, rfl⟩))
    (fun os started H enc _ => lifted os started H enc)
theorem proved : Rows.FnExactClaimOverSaid := over
#print axioms proved
end Go.Proofs.YtaihjhaabnfenaaGreat.fnExactClaimOver
namespace Go.Proofs.YtaihjhaabnfenaaGreat
/-- The row, under a short name, for the claim. -/
theorem fnExactClaimOver_holds : Rows.FnExactClaimOverSaid := fnExactClaimOver.proved
end Go.Proofs.YtaihjhaabnfenaaGreat


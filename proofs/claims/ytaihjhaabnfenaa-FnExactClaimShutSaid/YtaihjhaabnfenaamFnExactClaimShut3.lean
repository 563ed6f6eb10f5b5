/- Part 3 of the texts of the claim FnExactClaimShut: an interpreter of the translated code over data, proved sound; the contracts of the functions; the same in plain words. -/
import Derived.Test.YtaihjhaabnfenaamFnExactClaimShut2
/- The functions do what is told: printed by the program tool/gen.py of this repo. -/
set_option linter.unusedVariables false
set_option maxRecDepth 100000
namespace Go.MC
open Go.Proofs Go.MC.F
noncomputable section
def libL : List (Nat × LibK) := []
theorem libs_ok : LibsOK Try.prog libL := trivial
def an_laws_szClaimFoe : Nat → Option Ann := fun _ => none
noncomputable def fi_laws_szClaimFoe : FI := ⟨Try.f93.results.toList, bodyOf Try.f93.body, Try.f93.ntmps, an_laws_szClaimFoe⟩
theorem ok_laws_szClaimFoe : FnOK Try.prog 93 fi_laws_szClaimFoe := ⟨⟨Try.f93, Try.func93, by kernel_rfl, rfl, rfl, by kernel_rfl⟩, by kernel_rfl⟩
def phiL_laws_szClaimFoe (N : Nat) : List (Nat × Summ) := []
def sg_laws_szClaimFoe : Summ := sigOf [.d tFoe true, .d tInt false] false [.d tInt false]
theorem run_laws_szClaimFoe (N : Nat) (a : (List UInt8) × (List UInt8)) (left : Int) : runST (ofDs [tInt]) (tabOf tabL) (tabS (phiL_laws_szClaimFoe N)) inl0 N fi_laws_szClaimFoe sg_laws_szClaimFoe [⟨tFoe, a⟩, ⟨tInt, left⟩] = F.laws_szClaimFoe N a left := by kernel_rfl
def sm_laws_szClaimFoe (N : Nat) : Summ := summOf [.d tFoe true, .d tInt false] false [.d tInt false] [tInt] (F.laws_szClaimFoe N)
theorem con_laws_szClaimFoe (N : Nat) : Contract Try.prog 93 (sm_laws_szClaimFoe N) := con_of (N := N) tabOK mixed (callOK_list (l := phiL_laws_szClaimFoe N) trivial) (inl0_ok _) ok_laws_szClaimFoe (by decide) fun a left => run_laws_szClaimFoe N a left
def an_laws_szClaimFoeS : Nat → Option Ann
  | 0 => some ⟨{ fr := [(0, Dir.keep), (1, Dir.keep), (5, Dir.keep)], bx := [], os := [] }, [(0, { fr := [(1, Dir.keep)], bx := [], os := [] })], { fr := [(4, Dir.keep)], bx := [], os := [] }⟩
  | _ => none
noncomputable def fi_laws_szClaimFoeS : FI := ⟨Try.f48.results.toList, bodyOf Try.f48.body, Try.f48.ntmps, an_laws_szClaimFoeS⟩
theorem ok_laws_szClaimFoeS : FnOK Try.prog 48 fi_laws_szClaimFoeS := ⟨⟨Try.f48, Try.func48, by kernel_rfl, rfl, rfl, by kernel_rfl⟩, by kernel_rfl⟩
def phiL_laws_szClaimFoeS (N : Nat) : List (Nat × Summ) := [(93, sm_laws_szClaimFoe N)]
def sg_laws_szClaimFoeS : Summ := sigOf [.d (.slice tFoe) false, .d tInt false] false [.d tInt false]
def S_laws_szClaimFoeS_0 (a : List Foe) (left1 : Int) (i5 : Int) : St := { fr := [(0, AV.w (V1.one (C.v tFoe.slice a))), (1, AV.w (V1.one (C.v tInt left1))), (5, AV.w (V1.one (C.v tInt i5)))], H := [] }
noncomputable def E_laws_szClaimFoeS (N : Nat) : Env := envOf (tabOf tabL) (tabS (phiL_laws_szClaimFoeS N)) inl0 N fi_laws_szClaimFoeS []
noncomputable def K_laws_szClaimFoeS := (kFun (tabOf tabL) fi_laws_szClaimFoeS.res (kT (ofDs [tInt]) sg_laws_szClaimFoeS []))
noncomputable def its_laws_szClaimFoeS_0 (N : Nat) (n : Nat) : St → Option Int := fun S' => iter [] (annAt fi_laws_szClaimFoeS 0) (code (E_laws_szClaimFoeS N) (lpIn fi_laws_szClaimFoeS.body 0 0) 0) n S' (contOf (E_laws_szClaimFoeS N) fi_laws_szClaimFoeS.body 0 0 K_laws_szClaimFoeS)
noncomputable def it_laws_szClaimFoeS_0 (N : Nat) (a : List Foe) (n : Nat) : Int → Int → Option Int := fun left1 i5 => its_laws_szClaimFoeS_0 N n (S_laws_szClaimFoeS_0 a left1 i5)
theorem fe_laws_szClaimFoeS_0 (N : Nat) : it_laws_szClaimFoeS_0 N = laws_szClaimFoeS_0 N := funext fun a => funext (lp_all (by kernel_rfl) fun n => by
    show _ = laws_szClaimFoeS_0r N a (it_laws_szClaimFoeS_0 N a n)
    kernel_rfl)
theorem run_laws_szClaimFoeS (N : Nat) (a : List ((List UInt8) × (List UInt8))) (left : Int) : runST (ofDs [tInt]) (tabOf tabL) (tabS (phiL_laws_szClaimFoeS N)) inl0 N fi_laws_szClaimFoeS sg_laws_szClaimFoeS [⟨.slice tFoe, a⟩, ⟨tInt, left⟩] = F.laws_szClaimFoeS N a left := by
    show _ = F.laws_szClaimFoeSb N (F.laws_szClaimFoeS_0 N) a left
    rw [← fe_laws_szClaimFoeS_0 N]
    kernel_rfl
def sm_laws_szClaimFoeS (N : Nat) : Summ := summOf [.d (.slice tFoe) false, .d tInt false] false [.d tInt false] [tInt] (F.laws_szClaimFoeS N)
theorem con_laws_szClaimFoeS (N : Nat) : Contract Try.prog 48 (sm_laws_szClaimFoeS N) := con_of (N := N) tabOK mixed (callOK_list (l := phiL_laws_szClaimFoeS N) (allc rfl (con_laws_szClaimFoe N) trivial)) (inl0_ok _) ok_laws_szClaimFoeS (by decide) fun a left => run_laws_szClaimFoeS N a left
def an_laws_szStringS : Nat → Option Ann
  | 0 => some ⟨{ fr := [(0, Dir.keep), (1, Dir.keep), (5, Dir.keep)], bx := [], os := [] }, [(0, { fr := [(1, Dir.keep)], bx := [], os := [] })], { fr := [(4, Dir.keep)], bx := [], os := [] }⟩
  | _ => none
noncomputable def fi_laws_szStringS : FI := ⟨Try.f34.results.toList, bodyOf Try.f34.body, Try.f34.ntmps, an_laws_szStringS⟩
theorem ok_laws_szStringS : FnOK Try.prog 34 fi_laws_szStringS := ⟨⟨Try.f34, Try.func34, by kernel_rfl, rfl, rfl, by kernel_rfl⟩, by kernel_rfl⟩
def phiL_laws_szStringS (N : Nat) : List (Nat × Summ) := []
def sg_laws_szStringS : Summ := sigOf [.d tTxts false, .d tInt false] false [.d tInt false]
def S_laws_szStringS_0 (a : List Txt) (left1 : Int) (i5 : Int) : St := { fr := [(0, AV.w (V1.one (C.v tTxts a))), (1, AV.w (V1.one (C.v tInt left1))), (5, AV.w (V1.one (C.v tInt i5)))], H := [] }
noncomputable def E_laws_szStringS (N : Nat) : Env := envOf (tabOf tabL) (tabS (phiL_laws_szStringS N)) inl0 N fi_laws_szStringS []
noncomputable def K_laws_szStringS := (kFun (tabOf tabL) fi_laws_szStringS.res (kT (ofDs [tInt]) sg_laws_szStringS []))
noncomputable def its_laws_szStringS_0 (N : Nat) (n : Nat) : St → Option Int := fun S' => iter [] (annAt fi_laws_szStringS 0) (code (E_laws_szStringS N) (lpIn fi_laws_szStringS.body 0 0) 0) n S' (contOf (E_laws_szStringS N) fi_laws_szStringS.body 0 0 K_laws_szStringS)
noncomputable def it_laws_szStringS_0 (N : Nat) (a : List Txt) (n : Nat) : Int → Int → Option Int := fun left1 i5 => its_laws_szStringS_0 N n (S_laws_szStringS_0 a left1 i5)
theorem fe_laws_szStringS_0 (N : Nat) : it_laws_szStringS_0 N = laws_szStringS_0 N := funext fun a => funext (lp_all (by kernel_rfl) fun n => by
    show _ = laws_szStringS_0r N a (it_laws_szStringS_0 N a n)
    kernel_rfl)
theorem run_laws_szStringS (N : Nat) (a : List (List UInt8)) (left : Int) : runST (ofDs [tInt]) (tabOf tabL) (tabS (phiL_laws_szStringS N)) inl0 N fi_laws_szStringS sg_laws_szStringS [⟨tTxts, a⟩, ⟨tInt, left⟩] = F.laws_szStringS N a left := by
    show _ = F.laws_szStringSb N (F.laws_szStringS_0 N) a left
    rw [← fe_laws_szStringS_0 N]
    kernel_rfl
def sm_laws_szStringS (N : Nat) : Summ := summOf [.d tTxts false, .d tInt false] false [.d tInt false] [tInt] (F.laws_szStringS N)
theorem con_laws_szStringS (N : Nat) : Contract Try.prog 34 (sm_laws_szStringS N) := con_of (N := N) tabOK mixed (callOK_list (l := phiL_laws_szStringS N) trivial) (inl0_ok _) ok_laws_szStringS (by decide) fun a left => run_laws_szStringS N a left
def an_laws_szClaimSpot : Nat → Option Ann := fun _ => none
noncomputable def fi_laws_szClaimSpot : FI := ⟨Try.f94.results.toList, bodyOf Try.f94.body, Try.f94.ntmps, an_laws_szClaimSpot⟩
theorem ok_laws_szClaimSpot : FnOK Try.prog 94 fi_laws_szClaimSpot := ⟨⟨Try.f94, Try.func94, by kernel_rfl, rfl, rfl, by kernel_rfl⟩, by kernel_rfl⟩
def phiL_laws_szClaimSpot (N : Nat) : List (Nat × Summ) := [(34, sm_laws_szStringS N)]
def sg_laws_szClaimSpot : Summ := sigOf [.d tSpot true, .d tInt false] false [.d tInt false]
theorem run_laws_szClaimSpot (N : Nat) (a : (List UInt8) × ((Int) × ((Int) × ((Int) × (List Txt))))) (left : Int) : runST (ofDs [tInt]) (tabOf tabL) (tabS (phiL_laws_szClaimSpot N)) inl0 N fi_laws_szClaimSpot sg_laws_szClaimSpot [⟨tSpot, a⟩, ⟨tInt, left⟩] = F.laws_szClaimSpot N a left := by kernel_rfl
def sm_laws_szClaimSpot (N : Nat) : Summ := summOf [.d tSpot true, .d tInt false] false [.d tInt false] [tInt] (F.laws_szClaimSpot N)
theorem con_laws_szClaimSpot (N : Nat) : Contract Try.prog 94 (sm_laws_szClaimSpot N) := con_of (N := N) tabOK mixed (callOK_list (l := phiL_laws_szClaimSpot N) (allc rfl (con_laws_szStringS N) trivial)) (inl0_ok _) ok_laws_szClaimSpot (by decide) fun a left => run_laws_szClaimSpot N a left
def an_laws_szClaimSpotS : Nat → Option Ann
  | 0 => some ⟨{ fr := [(0, Dir.keep), (1, Dir.keep), (5, Dir.keep)], bx := [], os := [] }, [(0, { fr := [(1, Dir.keep)], bx := [], os := [] })], { fr := [(4, Dir.keep)], bx := [], os := [] }⟩
  | _ => none
noncomputable def fi_laws_szClaimSpotS : FI := ⟨Try.f49.results.toList, bodyOf Try.f49.body, Try.f49.ntmps, an_laws_szClaimSpotS⟩
theorem ok_laws_szClaimSpotS : FnOK Try.prog 49 fi_laws_szClaimSpotS := ⟨⟨Try.f49, Try.func49, by kernel_rfl, rfl, rfl, by kernel_rfl⟩, by kernel_rfl⟩
def phiL_laws_szClaimSpotS (N : Nat) : List (Nat × Summ) := [(94, sm_laws_szClaimSpot N)]
def sg_laws_szClaimSpotS : Summ := sigOf [.d (.slice tSpot) false, .d tInt false] false [.d tInt false]
def S_laws_szClaimSpotS_0 (a : List Spot) (left1 : Int) (i5 : Int) : St := { fr := [(0, AV.w (V1.one (C.v tSpot.slice a))), (1, AV.w (V1.one (C.v tInt left1))), (5, AV.w (V1.one (C.v tInt i5)))], H := [] }
noncomputable def E_laws_szClaimSpotS (N : Nat) : Env := envOf (tabOf tabL) (tabS (phiL_laws_szClaimSpotS N)) inl0 N fi_laws_szClaimSpotS []
noncomputable def K_laws_szClaimSpotS := (kFun (tabOf tabL) fi_laws_szClaimSpotS.res (kT (ofDs [tInt]) sg_laws_szClaimSpotS []))
noncomputable def its_laws_szClaimSpotS_0 (N : Nat) (n : Nat) : St → Option Int := fun S' => iter [] (annAt fi_laws_szClaimSpotS 0) (code (E_laws_szClaimSpotS N) (lpIn fi_laws_szClaimSpotS.body 0 0) 0) n S' (contOf (E_laws_szClaimSpotS N) fi_laws_szClaimSpotS.body 0 0 K_laws_szClaimSpotS)
noncomputable def it_laws_szClaimSpotS_0 (N : Nat) (a : List Spot) (n : Nat) : Int → Int → Option Int := fun left1 i5 => its_laws_szClaimSpotS_0 N n (S_laws_szClaimSpotS_0 a left1 i5)
theorem fe_laws_szClaimSpotS_0 (N : Nat) : it_laws_szClaimSpotS_0 N = laws_szClaimSpotS_0 N := funext fun a => funext (lp_all (by kernel_rfl) fun n => by
    show _ = laws_szClaimSpotS_0r N a (it_laws_szClaimSpotS_0 N a n)
    kernel_rfl)
theorem run_laws_szClaimSpotS (N : Nat) (a : List ((List UInt8) × ((Int) × ((Int) × ((Int) × (List Txt)))))) (left : Int) : runST (ofDs [tInt]) (tabOf tabL) (tabS (phiL_laws_szClaimSpotS N)) inl0 N fi_laws_szClaimSpotS sg_laws_szClaimSpotS [⟨.slice tSpot, a⟩, ⟨tInt, left⟩] = F.laws_szClaimSpotS N a left := by
    show _ = F.laws_szClaimSpotSb N (F.laws_szClaimSpotS_0 N) a left
    rw [← fe_laws_szClaimSpotS_0 N]
    kernel_rfl
def sm_laws_szClaimSpotS (N : Nat) : Summ := summOf [.d (.slice tSpot) false, .d tInt false] false [.d tInt false] [tInt] (F.laws_szClaimSpotS N)
theorem con_laws_szClaimSpotS (N : Nat) : Contract Try.prog 49 (sm_laws_szClaimSpotS N) := con_of (N := N) tabOK mixed (callOK_list (l := phiL_laws_szClaimSpotS N) (allc rfl (con_laws_szClaimSpot N) trivial)) (inl0_ok _) ok_laws_szClaimSpotS (by decide) fun a left => run_laws_szClaimSpotS N a left
def an_laws_szClaimUse : Nat → Option Ann := fun _ => none
noncomputable def fi_laws_szClaimUse : FI := ⟨Try.f87.results.toList, bodyOf Try.f87.body, Try.f87.ntmps, an_laws_szClaimUse⟩
theorem ok_laws_szClaimUse : FnOK Try.prog 87 fi_laws_szClaimUse := ⟨⟨Try.f87, Try.func87, by kernel_rfl, rfl, rfl, by kernel_rfl⟩, by kernel_rfl⟩
def phiL_laws_szClaimUse (N : Nat) : List (Nat × Summ) := []
def sg_laws_szClaimUse : Summ := sigOf [.d tUse true, .d tInt false] false [.d tInt false]
theorem run_laws_szClaimUse (N : Nat) (a : (List UInt8) × ((Int) × (Int))) (left : Int) : runST (ofDs [tInt]) (tabOf tabL) (tabS (phiL_laws_szClaimUse N)) inl0 N fi_laws_szClaimUse sg_laws_szClaimUse [⟨tUse, a⟩, ⟨tInt, left⟩] = F.laws_szClaimUse N a left := by kernel_rfl
def sm_laws_szClaimUse (N : Nat) : Summ := summOf [.d tUse true, .d tInt false] false [.d tInt false] [tInt] (F.laws_szClaimUse N)
theorem con_laws_szClaimUse (N : Nat) : Contract Try.prog 87 (sm_laws_szClaimUse N) := con_of (N := N) tabOK mixed (callOK_list (l := phiL_laws_szClaimUse N) trivial) (inl0_ok _) ok_laws_szClaimUse (by decide) fun a left => run_laws_szClaimUse N a left
def an_laws_szClaimUseS : Nat → Option Ann
  | 0 => some ⟨{ fr := [(0, Dir.keep), (1, Dir.keep), (5, Dir.keep)], bx := [], os := [] }, [(0, { fr := [(1, Dir.keep)], bx := [], os := [] })], { fr := [(4, Dir.keep)], bx := [], os := [] }⟩
  | _ => none
noncomputable def fi_laws_szClaimUseS : FI := ⟨Try.f35.results.toList, bodyOf Try.f35.body, Try.f35.ntmps, an_laws_szClaimUseS⟩
theorem ok_laws_szClaimUseS : FnOK Try.prog 35 fi_laws_szClaimUseS := ⟨⟨Try.f35, Try.func35, by kernel_rfl, rfl, rfl, by kernel_rfl⟩, by kernel_rfl⟩
def phiL_laws_szClaimUseS (N : Nat) : List (Nat × Summ) := [(87, sm_laws_szClaimUse N)]
def sg_laws_szClaimUseS : Summ := sigOf [.d (.slice tUse) false, .d tInt false] false [.d tInt false]
def S_laws_szClaimUseS_0 (a : List Use) (left1 : Int) (i5 : Int) : St := { fr := [(0, AV.w (V1.one (C.v tUse.slice a))), (1, AV.w (V1.one (C.v tInt left1))), (5, AV.w (V1.one (C.v tInt i5)))], H := [] }
noncomputable def E_laws_szClaimUseS (N : Nat) : Env := envOf (tabOf tabL) (tabS (phiL_laws_szClaimUseS N)) inl0 N fi_laws_szClaimUseS []
noncomputable def K_laws_szClaimUseS := (kFun (tabOf tabL) fi_laws_szClaimUseS.res (kT (ofDs [tInt]) sg_laws_szClaimUseS []))
noncomputable def its_laws_szClaimUseS_0 (N : Nat) (n : Nat) : St → Option Int := fun S' => iter [] (annAt fi_laws_szClaimUseS 0) (code (E_laws_szClaimUseS N) (lpIn fi_laws_szClaimUseS.body 0 0) 0) n S' (contOf (E_laws_szClaimUseS N) fi_laws_szClaimUseS.body 0 0 K_laws_szClaimUseS)
noncomputable def it_laws_szClaimUseS_0 (N : Nat) (a : List Use) (n : Nat) : Int → Int → Option Int := fun left1 i5 => its_laws_szClaimUseS_0 N n (S_laws_szClaimUseS_0 a left1 i5)
theorem fe_laws_szClaimUseS_0 (N : Nat) : it_laws_szClaimUseS_0 N = laws_szClaimUseS_0 N := funext fun a => funext (lp_all (by kernel_rfl) fun n => by
    show _ = laws_szClaimUseS_0r N a (it_laws_szClaimUseS_0 N a n)
    kernel_rfl)
theorem run_laws_szClaimUseS (N : Nat) (a : List ((List UInt8) × ((Int) × (Int)))) (left : Int) : runST (ofDs [tInt]) (tabOf tabL) (tabS (phiL_laws_szClaimUseS N)) inl0 N fi_laws_szClaimUseS sg_laws_szClaimUseS [⟨.slice tUse, a⟩, ⟨tInt, left⟩] = F.laws_szClaimUseS N a left := by
    show _ = F.laws_szClaimUseSb N (F.laws_szClaimUseS_0 N) a left
    rw [← fe_laws_szClaimUseS_0 N]
    kernel_rfl
def sm_laws_szClaimUseS (N : Nat) : Summ := summOf [.d (.slice tUse) false, .d tInt false] false [.d tInt false] [tInt] (F.laws_szClaimUseS N)
theorem con_laws_szClaimUseS (N : Nat) : Contract Try.prog 35 (sm_laws_szClaimUseS N) := con_of (N := N) tabOK mixed (callOK_list (l := phiL_laws_szClaimUseS N) (allc rfl (con_laws_szClaimUse N) trivial)) (inl0_ok _) ok_laws_szClaimUseS (by decide) fun a left => run_laws_szClaimUseS N a left
def an_laws_szClaimWant : Nat → Option Ann := fun _ => none
noncomputable def fi_laws_szClaimWant : FI := ⟨Try.f9.results.toList, bodyOf Try.f9.body, Try.f9.ntmps, an_laws_szClaimWant⟩
theorem ok_laws_szClaimWant : FnOK Try.prog 9 fi_laws_szClaimWant := ⟨⟨Try.f9, Try.func9, by kernel_rfl, rfl, rfl, by kernel_rfl⟩, by kernel_rfl⟩
def phiL_laws_szClaimWant (N : Nat) : List (Nat × Summ) := [(34, sm_laws_szStringS N), (35, sm_laws_szClaimUseS N)]
def sg_laws_szClaimWant : Summ := sigOf [.d tWant true, .d tInt false] false [.d tInt false]
theorem run_laws_szClaimWant (N : Nat) (a : (Int) × ((Int) × ((List Txt) × ((List ((List UInt8) × ((Int) × (Int)))) × ((List Txt) × (List Txt)))))) (left : Int) : runST (ofDs [tInt]) (tabOf tabL) (tabS (phiL_laws_szClaimWant N)) inl0 N fi_laws_szClaimWant sg_laws_szClaimWant [⟨tWant, a⟩, ⟨tInt, left⟩] = F.laws_szClaimWant N a left := by kernel_rfl
def sm_laws_szClaimWant (N : Nat) : Summ := summOf [.d tWant true, .d tInt false] false [.d tInt false] [tInt] (F.laws_szClaimWant N)
theorem con_laws_szClaimWant (N : Nat) : Contract Try.prog 9 (sm_laws_szClaimWant N) := con_of (N := N) tabOK mixed (callOK_list (l := phiL_laws_szClaimWant N) (allc rfl (con_laws_szStringS N) (allc rfl (con_laws_szClaimUseS N) trivial))) (inl0_ok _) ok_laws_szClaimWant (by decide) fun a left => run_laws_szClaimWant N a left
def an_laws_szClaimPart : Nat → Option Ann := fun _ => none
noncomputable def fi_laws_szClaimPart : FI := ⟨Try.f95.results.toList, bodyOf Try.f95.body, Try.f95.ntmps, an_laws_szClaimPart⟩
theorem ok_laws_szClaimPart : FnOK Try.prog 95 fi_laws_szClaimPart := ⟨⟨Try.f95, Try.func95, by kernel_rfl, rfl, rfl, by kernel_rfl⟩, by kernel_rfl⟩
def phiL_laws_szClaimPart (N : Nat) : List (Nat × Summ) := [(9, sm_laws_szClaimWant N)]
def sg_laws_szClaimPart : Summ := sigOf [.d tPart true, .d tInt false] false [.d tInt false]
theorem run_laws_szClaimPart (N : Nat) (a : ((Int) × ((Int) × ((List Txt) × ((List ((List UInt8) × ((Int) × (Int)))) × ((List Txt) × (List Txt)))))) × (Bool)) (left : Int) : runST (ofDs [tInt]) (tabOf tabL) (tabS (phiL_laws_szClaimPart N)) inl0 N fi_laws_szClaimPart sg_laws_szClaimPart [⟨tPart, a⟩, ⟨tInt, left⟩] = F.laws_szClaimPart N a left := by kernel_rfl
def sm_laws_szClaimPart (N : Nat) : Summ := summOf [.d tPart true, .d tInt false] false [.d tInt false] [tInt] (F.laws_szClaimPart N)
theorem con_laws_szClaimPart (N : Nat) : Contract Try.prog 95 (sm_laws_szClaimPart N) := con_of (N := N) tabOK mixed (callOK_list (l := phiL_laws_szClaimPart N) (allc rfl (con_laws_szClaimWant N) trivial)) (inl0_ok _) ok_laws_szClaimPart (by decide) fun a left => run_laws_szClaimPart N a left
def an_laws_szClaimPartS : Nat → Option Ann
  | 0 => some ⟨{ fr := [(0, Dir.keep), (1, Dir.keep), (5, Dir.keep)], bx := [], os := [] }, [(0, { fr := [(1, Dir.keep)], bx := [], os := [] })], { fr := [(4, Dir.keep)], bx := [], os := [] }⟩
  | _ => none
noncomputable def fi_laws_szClaimPartS : FI := ⟨Try.f50.results.toList, bodyOf Try.f50.body, Try.f50.ntmps, an_laws_szClaimPartS⟩
theorem ok_laws_szClaimPartS : FnOK Try.prog 50 fi_laws_szClaimPartS := ⟨⟨Try.f50, Try.func50, by kernel_rfl, rfl, rfl, by kernel_rfl⟩, by kernel_rfl⟩
def phiL_laws_szClaimPartS (N : Nat) : List (Nat × Summ) := [(95, sm_laws_szClaimPart N)]
def sg_laws_szClaimPartS : Summ := sigOf [.d (.slice tPart) false, .d tInt false] false [.d tInt false]
def S_laws_szClaimPartS_0 (a : List Part) (left1 : Int) (i5 : Int) : St := { fr := [(0, AV.w (V1.one (C.v tPart.slice a))), (1, AV.w (V1.one (C.v tInt left1))), (5, AV.w (V1.one (C.v tInt i5)))], H := [] }
noncomputable def E_laws_szClaimPartS (N : Nat) : Env := envOf (tabOf tabL) (tabS (phiL_laws_szClaimPartS N)) inl0 N fi_laws_szClaimPartS []
noncomputable def K_laws_szClaimPartS := (kFun (tabOf tabL) fi_laws_szClaimPartS.res (kT (ofDs [tInt]) sg_laws_szClaimPartS []))
noncomputable def its_laws_szClaimPartS_0 (N : Nat) (n : Nat) : St → Option Int := fun S' => iter [] (annAt fi_laws_szClaimPartS 0) (code (E_laws_szClaimPartS N) (lpIn fi_laws_szClaimPartS.body 0 0) 0) n S' (contOf (E_laws_szClaimPartS N) fi_laws_szClaimPartS.body 0 0 K_laws_szClaimPartS)
noncomputable def it_laws_szClaimPartS_0 (N : Nat) (a : List Part) (n : Nat) : Int → Int → Option Int := fun left1 i5 => its_laws_szClaimPartS_0 N n (S_laws_szClaimPartS_0 a left1 i5)
theorem fe_laws_szClaimPartS_0 (N : Nat) : it_laws_szClaimPartS_0 N = laws_szClaimPartS_0 N := funext fun a => funext (lp_all (by kernel_rfl) fun n => by
    show _ = laws_szClaimPartS_0r N a (it_laws_szClaimPartS_0 N a n)
    kernel_rfl)
theorem run_laws_szClaimPartS (N : Nat) (a : List (((Int) × ((Int) × ((List Txt) × ((List ((List UInt8) × ((Int) × (Int)))) × ((List Txt) × (List Txt)))))) × (Bool))) (left : Int) : runST (ofDs [tInt]) (tabOf tabL) (tabS (phiL_laws_szClaimPartS N)) inl0 N fi_laws_szClaimPartS sg_laws_szClaimPartS [⟨.slice tPart, a⟩, ⟨tInt, left⟩] = F.laws_szClaimPartS N a left := by
    show _ = F.laws_szClaimPartSb N (F.laws_szClaimPartS_0 N) a left
    rw [← fe_laws_szClaimPartS_0 N]
    kernel_rfl
def sm_laws_szClaimPartS (N : Nat) : Summ := summOf [.d (.slice tPart) false, .d tInt false] false [.d tInt false] [tInt] (F.laws_szClaimPartS N)
theorem con_laws_szClaimPartS (N : Nat) : Contract Try.prog 50 (sm_laws_szClaimPartS N) := con_of (N := N) tabOK mixed (callOK_list (l := phiL_laws_szClaimPartS N) (allc rfl (con_laws_szClaimPart N) trivial)) (inl0_ok _) ok_laws_szClaimPartS (by decide) fun a left => run_laws_szClaimPartS N a left
def an_laws_szClaimBook : Nat → Option Ann := fun _ => none
noncomputable def fi_laws_szClaimBook : FI := ⟨Try.f14.results.toList, bodyOf Try.f14.body, Try.f14.ntmps, an_laws_szClaimBook⟩
theorem ok_laws_szClaimBook : FnOK Try.prog 14 fi_laws_szClaimBook := ⟨⟨Try.f14, Try.func14, by kernel_rfl, rfl, rfl, by kernel_rfl⟩, by kernel_rfl⟩
def phiL_laws_szClaimBook (N : Nat) : List (Nat × Summ) := [(48, sm_laws_szClaimFoeS N), (49, sm_laws_szClaimSpotS N), (34, sm_laws_szStringS N), (50, sm_laws_szClaimPartS N)]
def sg_laws_szClaimBook : Summ := sigOf [.d tBook true, .d tInt false] false [.d tInt false]
theorem run_laws_szClaimBook (N : Nat) (a : (List ((List UInt8) × (List UInt8))) × ((List ((List UInt8) × ((Int) × ((Int) × ((Int) × (List Txt)))))) × ((List Txt) × ((List (((Int) × ((Int) × ((List Txt) × ((List ((List UInt8) × ((Int) × (Int)))) × ((List Txt) × (List Txt)))))) × (Bool))) × (Int))))) (left : Int) : runST (ofDs [tInt]) (tabOf tabL) (tabS (phiL_laws_szClaimBook N)) inl0 N fi_laws_szClaimBook sg_laws_szClaimBook [⟨tBook, a⟩, ⟨tInt, left⟩] = F.laws_szClaimBook N a left := by kernel_rfl
def sm_laws_szClaimBook (N : Nat) : Summ := summOf [.d tBook true, .d tInt false] false [.d tInt false] [tInt] (F.laws_szClaimBook N)
theorem con_laws_szClaimBook (N : Nat) : Contract Try.prog 14 (sm_laws_szClaimBook N) := con_of (N := N) tabOK mixed (callOK_list (l := phiL_laws_szClaimBook N) (allc rfl (con_laws_szClaimFoeS N) (allc rfl (con_laws_szClaimSpotS N) (allc rfl (con_laws_szStringS N) (allc rfl (con_laws_szClaimPartS N) trivial))))) (inl0_ok _) ok_laws_szClaimBook (by decide) fun a left => run_laws_szClaimBook N a left
def an_laws_toClaimFoe : Nat → Option Ann := fun _ => none
noncomputable def fi_laws_toClaimFoe : FI := ⟨Try.f100.results.toList, bodyOf Try.f100.body, Try.f100.ntmps, an_laws_toClaimFoe⟩
theorem ok_laws_toClaimFoe : FnOK Try.prog 100 fi_laws_toClaimFoe := ⟨⟨Try.f100, Try.func100, by kernel_rfl, rfl, rfl, by kernel_rfl⟩, by kernel_rfl⟩
def phiL_laws_toClaimFoe (N : Nat) : List (Nat × Summ) := []
def sg_laws_toClaimFoe : Summ := sigOf [.d tFoe true] false [.d tFoe true]
theorem run_laws_toClaimFoe (N : Nat) (a : (List UInt8) × (List UInt8)) : runST (ofDs [tFoe]) (tabOf tabL) (tabS (phiL_laws_toClaimFoe N)) inl0 N fi_laws_toClaimFoe sg_laws_toClaimFoe [⟨tFoe, a⟩] = F.laws_toClaimFoe N a := by kernel_rfl
def sm_laws_toClaimFoe (N : Nat) : Summ := summOf [.d tFoe true] false [.d tFoe true] [tFoe] (F.laws_toClaimFoe N)
theorem con_laws_toClaimFoe (N : Nat) : Contract Try.prog 100 (sm_laws_toClaimFoe N) := con_of (N := N) tabOK mixed (callOK_list (l := phiL_laws_toClaimFoe N) trivial) (inl0_ok _) ok_laws_toClaimFoe (by decide) fun a => run_laws_toClaimFoe N a
def an_laws_toClaimFoeS : Nat → Option Ann
  | 0 => some ⟨{ fr := [(0, Dir.keep), (3, Dir.own 700003 86 tFoe), (4, Dir.keep)], bx := [], os := [] }, [(0, { fr := [(3, Dir.own 700003 86 tFoe)], bx := [], os := [] })], ⟨[], [], []⟩⟩
  | _ => none
noncomputable def fi_laws_toClaimFoeS : FI := ⟨Try.f54.results.toList, bodyOf Try.f54.body, Try.f54.ntmps, an_laws_toClaimFoeS⟩
theorem ok_laws_toClaimFoeS : FnOK Try.prog 54 fi_laws_toClaimFoeS := ⟨⟨Try.f54, Try.func54, by kernel_rfl, rfl, rfl, by kernel_rfl⟩, by kernel_rfl⟩
def phiL_laws_toClaimFoeS (N : Nat) : List (Nat × Summ) := [(100, sm_laws_toClaimFoe N)]
def sg_laws_toClaimFoeS : Summ := sigOf [.d (.slice tFoe) false] false [.own (.slice tFoe) false [(86, none)]]
def S_laws_toClaimFoeS_0 (a : List Foe) (i4 : Int) (out3a : List Foe) : St := { fr := [(0, AV.w (V1.one (C.v tFoe.slice a))), (3, AV.w (V1.one (C.arr 700003))), (4, AV.w (V1.one (C.v tInt i4)))], H := [(700003, Ob.arr 86 tFoe out3a)] }
noncomputable def E_laws_toClaimFoeS (N : Nat) : Env := envOf (tabOf tabL) (tabS (phiL_laws_toClaimFoeS N)) inl0 N fi_laws_toClaimFoeS []
noncomputable def K_laws_toClaimFoeS := (kFun (tabOf tabL) fi_laws_toClaimFoeS.res (kT (ofDs [.slice tFoe]) sg_laws_toClaimFoeS []))
noncomputable def its_laws_toClaimFoeS_0 (N : Nat) (n : Nat) : St → Option (List Foe) := fun S' => iter [] (annAt fi_laws_toClaimFoeS 0) (code (E_laws_toClaimFoeS N) (lpIn fi_laws_toClaimFoeS.body 0 0) 0) n S' (contOf (E_laws_toClaimFoeS N) fi_laws_toClaimFoeS.body 0 0 K_laws_toClaimFoeS)
noncomputable def it_laws_toClaimFoeS_0 (N : Nat) (a : List Foe) (n : Nat) : Int → (List Foe) → Option (List Foe) := fun i4 out3a => its_laws_toClaimFoeS_0 N n (S_laws_toClaimFoeS_0 a i4 out3a)
theorem fe_laws_toClaimFoeS_0 (N : Nat) : it_laws_toClaimFoeS_0 N = laws_toClaimFoeS_0 N := funext fun a => funext (lp_all (by kernel_rfl) fun n => by
    show _ = laws_toClaimFoeS_0r N a (it_laws_toClaimFoeS_0 N a n)
    kernel_rfl)
theorem run_laws_toClaimFoeS (N : Nat) (a : List ((List UInt8) × (List UInt8))) : runST (ofDs [.slice tFoe]) (tabOf tabL) (tabS (phiL_laws_toClaimFoeS N)) inl0 N fi_laws_toClaimFoeS sg_laws_toClaimFoeS [⟨.slice tFoe, a⟩] = F.laws_toClaimFoeS N a := by
    show _ = F.laws_toClaimFoeSb N (F.laws_toClaimFoeS_0 N) a
    rw [← fe_laws_toClaimFoeS_0 N]
    kernel_rfl
def sm_laws_toClaimFoeS (N : Nat) : Summ := summOf [.d (.slice tFoe) false] false [.own (.slice tFoe) false [(86, none)]] [.slice tFoe] (F.laws_toClaimFoeS N)
theorem con_laws_toClaimFoeS (N : Nat) : Contract Try.prog 54 (sm_laws_toClaimFoeS N) := con_of (N := N) tabOK mixed (callOK_list (l := phiL_laws_toClaimFoeS N) (allc rfl (con_laws_toClaimFoe N) trivial)) (inl0_ok _) ok_laws_toClaimFoeS (by decide) fun a => run_laws_toClaimFoeS N a
def an_laws_toStringS : Nat → Option Ann
  | 0 => some ⟨{ fr := [(0, Dir.keep), (3, Dir.own 700003 9 Ty.str), (4, Dir.keep)], bx := [], os := [] }, [(0, { fr := [(3, Dir.own 700003 9 Ty.str)], bx := [], os := [] })], ⟨[], [], []⟩⟩
  | _ => none
noncomputable def fi_laws_toStringS : FI := ⟨Try.f40.results.toList, bodyOf Try.f40.body, Try.f40.ntmps, an_laws_toStringS⟩
theorem ok_laws_toStringS : FnOK Try.prog 40 fi_laws_toStringS := ⟨⟨Try.f40, Try.func40, by kernel_rfl, rfl, rfl, by kernel_rfl⟩, by kernel_rfl⟩
def phiL_laws_toStringS (N : Nat) : List (Nat × Summ) := []
def sg_laws_toStringS : Summ := sigOf [.d tTxts false] false [.own tTxts false [(9, none)]]
def S_laws_toStringS_0 (a : List Txt) (i4 : Int) (out3a : List Txt) : St := { fr := [(0, AV.w (V1.one (C.v tTxts a))), (3, AV.w (V1.one (C.arr 700003))), (4, AV.w (V1.one (C.v tInt i4)))], H := [(700003, Ob.arr 9 Ty.str out3a)] }
noncomputable def E_laws_toStringS (N : Nat) : Env := envOf (tabOf tabL) (tabS (phiL_laws_toStringS N)) inl0 N fi_laws_toStringS []
noncomputable def K_laws_toStringS := (kFun (tabOf tabL) fi_laws_toStringS.res (kT (ofDs [tTxts]) sg_laws_toStringS []))
noncomputable def its_laws_toStringS_0 (N : Nat) (n : Nat) : St → Option (List Txt) := fun S' => iter [] (annAt fi_laws_toStringS 0) (code (E_laws_toStringS N) (lpIn fi_laws_toStringS.body 0 0) 0) n S' (contOf (E_laws_toStringS N) fi_laws_toStringS.body 0 0 K_laws_toStringS)
noncomputable def it_laws_toStringS_0 (N : Nat) (a : List Txt) (n : Nat) : Int → (List Txt) → Option (List Txt) := fun i4 out3a => its_laws_toStringS_0 N n (S_laws_toStringS_0 a i4 out3a)
theorem fe_laws_toStringS_0 (N : Nat) : it_laws_toStringS_0 N = laws_toStringS_0 N := funext fun a => funext (lp_all (by kernel_rfl) fun n => by
    show _ = laws_toStringS_0r N a (it_laws_toStringS_0 N a n)
    kernel_rfl)
theorem run_laws_toStringS (N : Nat) (a : List (List UInt8)) : runST (ofDs [tTxts]) (tabOf tabL) (tabS (phiL_laws_toStringS N)) inl0 N fi_laws_toStringS sg_laws_toStringS [⟨tTxts, a⟩] = F.laws_toStringS N a := by
    show _ = F.laws_toStringSb N (F.laws_toStringS_0 N) a
    rw [← fe_laws_toStringS_0 N]
    kernel_rfl
def sm_laws_toStringS (N : Nat) : Summ := summOf [.d tTxts false] false [.own tTxts false [(9, none)]] [tTxts] (F.laws_toStringS N)
theorem con_laws_toStringS (N : Nat) : Contract Try.prog 40 (sm_laws_toStringS N) := con_of (N := N) tabOK mixed (callOK_list (l := phiL_laws_toStringS N) trivial) (inl0_ok _) ok_laws_toStringS (by decide) fun a => run_laws_toStringS N a
def an_laws_toClaimSpot : Nat → Option Ann := fun _ => none
noncomputable def fi_laws_toClaimSpot : FI := ⟨Try.f101.results.toList, bodyOf Try.f101.body, Try.f101.ntmps, an_laws_toClaimSpot⟩
theorem ok_laws_toClaimSpot : FnOK Try.prog 101 fi_laws_toClaimSpot := ⟨⟨Try.f101, Try.func101, by kernel_rfl, rfl, rfl, by kernel_rfl⟩, by kernel_rfl⟩
def phiL_laws_toClaimSpot (N : Nat) : List (Nat × Summ) := [(40, sm_laws_toStringS N)]
def sg_laws_toClaimSpot : Summ := sigOf [.d tSpot true] false [.own tSpot true [(9, none)]]
theorem run_laws_toClaimSpot (N : Nat) (a : (List UInt8) × ((Int) × ((Int) × ((Int) × (List Txt))))) : runST (ofDs [tSpot]) (tabOf tabL) (tabS (phiL_laws_toClaimSpot N)) inl0 N fi_laws_toClaimSpot sg_laws_toClaimSpot [⟨tSpot, a⟩] = F.laws_toClaimSpot N a := by kernel_rfl
def sm_laws_toClaimSpot (N : Nat) : Summ := summOf [.d tSpot true] false [.own tSpot true [(9, none)]] [tSpot] (F.laws_toClaimSpot N)
theorem con_laws_toClaimSpot (N : Nat) : Contract Try.prog 101 (sm_laws_toClaimSpot N) := con_of (N := N) tabOK mixed (callOK_list (l := phiL_laws_toClaimSpot N) (allc rfl (con_laws_toStringS N) trivial)) (inl0_ok _) ok_laws_toClaimSpot (by decide) fun a => run_laws_toClaimSpot N a
def an_laws_toClaimSpotS : Nat → Option Ann
  | 0 => some ⟨{ fr := [(0, Dir.keep), (3, Dir.dow 700003 64 [9] tSpot), (4, Dir.keep)], bx := [], os := [] }, [(0, { fr := [(3, Dir.dow 700003 64 [9] tSpot)], bx := [], os := [] })], ⟨[], [], []⟩⟩
  | _ => none
noncomputable def fi_laws_toClaimSpotS : FI := ⟨Try.f55.results.toList, bodyOf Try.f55.body, Try.f55.ntmps, an_laws_toClaimSpotS⟩
theorem ok_laws_toClaimSpotS : FnOK Try.prog 55 fi_laws_toClaimSpotS := ⟨⟨Try.f55, Try.func55, by kernel_rfl, rfl, rfl, by kernel_rfl⟩, by kernel_rfl⟩
def phiL_laws_toClaimSpotS (N : Nat) : List (Nat × Summ) := [(101, sm_laws_toClaimSpot N)]
def sg_laws_toClaimSpotS : Summ := sigOf [.d (.slice tSpot) false] false [.own (.slice tSpot) false [(64, (some [9]))]]
def S_laws_toClaimSpotS_0 (a : List Spot) (i4 : Int) (out3a : List Spot) : St := { fr := [(0, AV.w (V1.one (C.v tSpot.slice a))), (3, AV.w (V1.one (C.arr 700003))), (4, AV.w (V1.one (C.v tInt i4)))], H := [(700003, Ob.arr 64 tSpot out3a (Dp.yes [9]))] }
noncomputable def E_laws_toClaimSpotS (N : Nat) : Env := envOf (tabOf tabL) (tabS (phiL_laws_toClaimSpotS N)) inl0 N fi_laws_toClaimSpotS []
noncomputable def K_laws_toClaimSpotS := (kFun (tabOf tabL) fi_laws_toClaimSpotS.res (kT (ofDs [.slice tSpot]) sg_laws_toClaimSpotS []))
noncomputable def its_laws_toClaimSpotS_0 (N : Nat) (n : Nat) : St → Option (List Spot) := fun S' => iter [] (annAt fi_laws_toClaimSpotS 0) (code (E_laws_toClaimSpotS N) (lpIn fi_laws_toClaimSpotS.body 0 0) 0) n S' (contOf (E_laws_toClaimSpotS N) fi_laws_toClaimSpotS.body 0 0 K_laws_toClaimSpotS)
noncomputable def it_laws_toClaimSpotS_0 (N : Nat) (a : List Spot) (n : Nat) : Int → (List Spot) → Option (List Spot) := fun i4 out3a => its_laws_toClaimSpotS_0 N n (S_laws_toClaimSpotS_0 a i4 out3a)
theorem fe_laws_toClaimSpotS_0 (N : Nat) : it_laws_toClaimSpotS_0 N = laws_toClaimSpotS_0 N := funext fun a => funext (lp_all (by kernel_rfl) fun n => by
    show _ = laws_toClaimSpotS_0r N a (it_laws_toClaimSpotS_0 N a n)
    kernel_rfl)
theorem run_laws_toClaimSpotS (N : Nat) (a : List ((List UInt8) × ((Int) × ((Int) × ((Int) × (List Txt)))))) : runST (ofDs [.slice tSpot]) (tabOf tabL) (tabS (phiL_laws_toClaimSpotS N)) inl0 N fi_laws_toClaimSpotS sg_laws_toClaimSpotS [⟨.slice tSpot, a⟩] = F.laws_toClaimSpotS N a := by
    show _ = F.laws_toClaimSpotSb N (F.laws_toClaimSpotS_0 N) a
    rw [← fe_laws_toClaimSpotS_0 N]
    kernel_rfl
def sm_laws_toClaimSpotS (N : Nat) : Summ := summOf [.d (.slice tSpot) false] false [.own (.slice tSpot) false [(64, (some [9]))]] [.slice tSpot] (F.laws_toClaimSpotS N)
theorem con_laws_toClaimSpotS (N : Nat) : Contract Try.prog 55 (sm_laws_toClaimSpotS N) := con_of (N := N) tabOK mixed (callOK_list (l := phiL_laws_toClaimSpotS N) (allc rfl (con_laws_toClaimSpot N) trivial)) (inl0_ok _) ok_laws_toClaimSpotS (by decide) fun a => run_laws_toClaimSpotS N a
def an_laws_toClaimUse : Nat → Option Ann := fun _ => none
noncomputable def fi_laws_toClaimUse : FI := ⟨Try.f89.results.toList, bodyOf Try.f89.body, Try.f89.ntmps, an_laws_toClaimUse⟩
theorem ok_laws_toClaimUse : FnOK Try.prog 89 fi_laws_toClaimUse := ⟨⟨Try.f89, Try.func89, by kernel_rfl, rfl, rfl, by kernel_rfl⟩, by kernel_rfl⟩
def phiL_laws_toClaimUse (N : Nat) : List (Nat × Summ) := []
def sg_laws_toClaimUse : Summ := sigOf [.d tUse true] false [.d tUse true]
theorem run_laws_toClaimUse (N : Nat) (a : (List UInt8) × ((Int) × (Int))) : runST (ofDs [tUse]) (tabOf tabL) (tabS (phiL_laws_toClaimUse N)) inl0 N fi_laws_toClaimUse sg_laws_toClaimUse [⟨tUse, a⟩] = F.laws_toClaimUse N a := by kernel_rfl
def sm_laws_toClaimUse (N : Nat) : Summ := summOf [.d tUse true] false [.d tUse true] [tUse] (F.laws_toClaimUse N)
theorem con_laws_toClaimUse (N : Nat) : Contract Try.prog 89 (sm_laws_toClaimUse N) := con_of (N := N) tabOK mixed (callOK_list (l := phiL_laws_toClaimUse N) trivial) (inl0_ok _) ok_laws_toClaimUse (by decide) fun a => run_laws_toClaimUse N a
def an_laws_toClaimUseS : Nat → Option Ann
  | 0 => some ⟨{ fr := [(0, Dir.keep), (3, Dir.own 700003 75 tUse), (4, Dir.keep)], bx := [], os := [] }, [(0, { fr := [(3, Dir.own 700003 75 tUse)], bx := [], os := [] })], ⟨[], [], []⟩⟩
  | _ => none
noncomputable def fi_laws_toClaimUseS : FI := ⟨Try.f41.results.toList, bodyOf Try.f41.body, Try.f41.ntmps, an_laws_toClaimUseS⟩
theorem ok_laws_toClaimUseS : FnOK Try.prog 41 fi_laws_toClaimUseS := ⟨⟨Try.f41, Try.func41, by kernel_rfl, rfl, rfl, by kernel_rfl⟩, by kernel_rfl⟩
def phiL_laws_toClaimUseS (N : Nat) : List (Nat × Summ) := [(89, sm_laws_toClaimUse N)]
def sg_laws_toClaimUseS : Summ := sigOf [.d (.slice tUse) false] false [.own (.slice tUse) false [(75, none)]]
def S_laws_toClaimUseS_0 (a : List Use) (i4 : Int) (out3a : List Use) : St := { fr := [(0, AV.w (V1.one (C.v tUse.slice a))), (3, AV.w (V1.one (C.arr 700003))), (4, AV.w (V1.one (C.v tInt i4)))], H := [(700003, Ob.arr 75 tUse out3a)] }
noncomputable def E_laws_toClaimUseS (N : Nat) : Env := envOf (tabOf tabL) (tabS (phiL_laws_toClaimUseS N)) inl0 N fi_laws_toClaimUseS []
noncomputable def K_laws_toClaimUseS := (kFun (tabOf tabL) fi_laws_toClaimUseS.res (kT (ofDs [.slice tUse]) sg_laws_toClaimUseS []))
noncomputable def its_laws_toClaimUseS_0 (N : Nat) (n : Nat) : St → Option (List Use) := fun S' => iter [] (annAt fi_laws_toClaimUseS 0) (code (E_laws_toClaimUseS N) (lpIn fi_laws_toClaimUseS.body 0 0) 0) n S' (contOf (E_laws_toClaimUseS N) fi_laws_toClaimUseS.body 0 0 K_laws_toClaimUseS)
noncomputable def it_laws_toClaimUseS_0 (N : Nat) (a : List Use) (n : Nat) : Int → (List Use) → Option (List Use) := fun i4 out3a => its_laws_toClaimUseS_0 N n (S_laws_toClaimUseS_0 a i4 out3a)
theorem fe_laws_toClaimUseS_0 (N : Nat) : it_laws_toClaimUseS_0 N = laws_toClaimUseS_0 N := funext fun a => funext (lp_all (by kernel_rfl) fun n => by
    show _ = laws_toClaimUseS_0r N a (it_laws_toClaimUseS_0 N a n)
    kernel_rfl)
theorem run_laws_toClaimUseS (N : Nat) (a : List ((List UInt8) × ((Int) × (Int)))) : runST (ofDs [.slice tUse]) (tabOf tabL) (tabS (phiL_laws_toClaimUseS N)) inl0 N fi_laws_toClaimUseS sg_laws_toClaimUseS [⟨.slice tUse, a⟩] = F.laws_toClaimUseS N a := by
    show _ = F.laws_toClaimUseSb N (F.laws_toClaimUseS_0 N) a
    rw [← fe_laws_toClaimUseS_0 N]
    kernel_rfl
def sm_laws_toClaimUseS (N : Nat) : Summ := summOf [.d (.slice tUse) false] false [.own (.slice tUse) false [(75, none)]] [.slice tUse] (F.laws_toClaimUseS N)
theorem con_laws_toClaimUseS (N : Nat) : Contract Try.prog 41 (sm_laws_toClaimUseS N) := con_of (N := N) tabOK mixed (callOK_list (l := phiL_laws_toClaimUseS N) (allc rfl (con_laws_toClaimUse N) trivial)) (inl0_ok _) ok_laws_toClaimUseS (by decide) fun a => run_laws_toClaimUseS N a
def an_laws_toClaimWant : Nat → Option Ann := fun _ => none
noncomputable def fi_laws_toClaimWant : FI := ⟨Try.f11.results.toList, bodyOf Try.f11.body, Try.f11.ntmps, an_laws_toClaimWant⟩
theorem ok_laws_toClaimWant : FnOK Try.prog 11 fi_laws_toClaimWant := ⟨⟨Try.f11, Try.func11, by kernel_rfl, rfl, rfl, by kernel_rfl⟩, by kernel_rfl⟩
def phiL_laws_toClaimWant (N : Nat) : List (Nat × Summ) := [(40, sm_laws_toStringS N), (41, sm_laws_toClaimUseS N)]
def sg_laws_toClaimWant : Summ := sigOf [.d tWant true] false [.own tWant true [(9, none), (75, none), (9, none), (9, none)]]
theorem run_laws_toClaimWant (N : Nat) (a : (Int) × ((Int) × ((List Txt) × ((List ((List UInt8) × ((Int) × (Int)))) × ((List Txt) × (List Txt)))))) : runST (ofDs [tWant]) (tabOf tabL) (tabS (phiL_laws_toClaimWant N)) inl0 N fi_laws_toClaimWant sg_laws_toClaimWant [⟨tWant, a⟩] = F.laws_toClaimWant N a := by kernel_rfl
def sm_laws_toClaimWant (N : Nat) : Summ := summOf [.d tWant true] false [.own tWant true [(9, none), (75, none), (9, none), (9, none)]] [tWant] (F.laws_toClaimWant N)
theorem con_laws_toClaimWant (N : Nat) : Contract Try.prog 11 (sm_laws_toClaimWant N) := con_of (N := N) tabOK mixed (callOK_list (l := phiL_laws_toClaimWant N) (allc rfl (con_laws_toStringS N) (allc rfl (con_laws_toClaimUseS N) trivial))) (inl0_ok _) ok_laws_toClaimWant (by decide) fun a => run_laws_toClaimWant N a
def an_laws_toClaimPart : Nat → Option Ann := fun _ => none
noncomputable def fi_laws_toClaimPart : FI := ⟨Try.f102.results.toList, bodyOf Try.f102.body, Try.f102.ntmps, an_laws_toClaimPart⟩
theorem ok_laws_toClaimPart : FnOK Try.prog 102 fi_laws_toClaimPart := ⟨⟨Try.f102, Try.func102, by kernel_rfl, rfl, rfl, by kernel_rfl⟩, by kernel_rfl⟩
def phiL_laws_toClaimPart (N : Nat) : List (Nat × Summ) := [(11, sm_laws_toClaimWant N)]
def sg_laws_toClaimPart : Summ := sigOf [.d tPart true] false [.own tPart true [(9, none), (75, none), (9, none), (9, none)]]
theorem run_laws_toClaimPart (N : Nat) (a : ((Int) × ((Int) × ((List Txt) × ((List ((List UInt8) × ((Int) × (Int)))) × ((List Txt) × (List Txt)))))) × (Bool)) : runST (ofDs [tPart]) (tabOf tabL) (tabS (phiL_laws_toClaimPart N)) inl0 N fi_laws_toClaimPart sg_laws_toClaimPart [⟨tPart, a⟩] = F.laws_toClaimPart N a := by kernel_rfl
def sm_laws_toClaimPart (N : Nat) : Summ := summOf [.d tPart true] false [.own tPart true [(9, none), (75, none), (9, none), (9, none)]] [tPart] (F.laws_toClaimPart N)
theorem con_laws_toClaimPart (N : Nat) : Contract Try.prog 102 (sm_laws_toClaimPart N) := con_of (N := N) tabOK mixed (callOK_list (l := phiL_laws_toClaimPart N) (allc rfl (con_laws_toClaimWant N) trivial)) (inl0_ok _) ok_laws_toClaimPart (by decide) fun a => run_laws_toClaimPart N a
def an_laws_toClaimPartS : Nat → Option Ann
  | 0 => some ⟨{ fr := [(0, Dir.keep), (3, Dir.dow 700003 89 [9, 75, 9, 9] tPart), (4, Dir.keep)], bx := [], os := [] }, [(0, { fr := [(3, Dir.dow 700003 89 [9, 75, 9, 9] tPart)], bx := [], os := [] })], ⟨[], [], []⟩⟩
  | _ => none
noncomputable def fi_laws_toClaimPartS : FI := ⟨Try.f56.results.toList, bodyOf Try.f56.body, Try.f56.ntmps, an_laws_toClaimPartS⟩
theorem ok_laws_toClaimPartS : FnOK Try.prog 56 fi_laws_toClaimPartS := ⟨⟨Try.f56, Try.func56, by kernel_rfl, rfl, rfl, by kernel_rfl⟩, by kernel_rfl⟩
def phiL_laws_toClaimPartS (N : Nat) : List (Nat × Summ) := [(102, sm_laws_toClaimPart N)]
def sg_laws_toClaimPartS : Summ := sigOf [.d (.slice tPart) false] false [.own (.slice tPart) false [(89, (some [9, 75, 9, 9]))]]
def S_laws_toClaimPartS_0 (a : List Part) (i4 : Int) (out3a : List Part) : St := { fr := [(0, AV.w (V1.one (C.v tPart.slice a))), (3, AV.w (V1.one (C.arr 700003))), (4, AV.w (V1.one (C.v tInt i4)))], H := [(700003, Ob.arr 89 tPart out3a (Dp.yes [9, 75, 9, 9]))] }
noncomputable def E_laws_toClaimPartS (N : Nat) : Env := envOf (tabOf tabL) (tabS (phiL_laws_toClaimPartS N)) inl0 N fi_laws_toClaimPartS []
noncomputable def K_laws_toClaimPartS := (kFun (tabOf tabL) fi_laws_toClaimPartS.res (kT (ofDs [.slice tPart]) sg_laws_toClaimPartS []))
noncomputable def its_laws_toClaimPartS_0 (N : Nat) (n : Nat) : St → Option (List Part) := fun S' => iter [] (annAt fi_laws_toClaimPartS 0) (code (E_laws_toClaimPartS N) (lpIn fi_laws_toClaimPartS.body 0 0) 0) n S' (contOf (E_laws_toClaimPartS N) fi_laws_toClaimPartS.body 0 0 K_laws_toClaimPartS)
noncomputable def it_laws_toClaimPartS_0 (N : Nat) (a : List Part) (n : Nat) : Int → (List Part) → Option (List Part) := fun i4 out3a => its_laws_toClaimPartS_0 N n (S_laws_toClaimPartS_0 a i4 out3a)
theorem fe_laws_toClaimPartS_0 (N : Nat) : it_laws_toClaimPartS_0 N = laws_toClaimPartS_0 N := funext fun a => funext (lp_all (by kernel_rfl) fun n => by
    show _ = laws_toClaimPartS_0r N a (it_laws_toClaimPartS_0 N a n)
    kernel_rfl)
theorem run_laws_toClaimPartS (N : Nat) (a : List (((Int) × ((Int) × ((List Txt) × ((List ((List UInt8) × ((Int) × (Int)))) × ((List Txt) × (List Txt)))))) × (Bool))) : runST (ofDs [.slice tPart]) (tabOf tabL) (tabS (phiL_laws_toClaimPartS N)) inl0 N fi_laws_toClaimPartS sg_laws_toClaimPartS [⟨.slice tPart, a⟩] = F.laws_toClaimPartS N a := by
    show _ = F.laws_toClaimPartSb N (F.laws_toClaimPartS_0 N) a
    rw [← fe_laws_toClaimPartS_0 N]
    kernel_rfl
def sm_laws_toClaimPartS (N : Nat) : Summ := summOf [.d (.slice tPart) false] false [.own (.slice tPart) false [(89, (some [9, 75, 9, 9]))]] [.slice tPart] (F.laws_toClaimPartS N)
theorem con_laws_toClaimPartS (N : Nat) : Contract Try.prog 56 (sm_laws_toClaimPartS N) := con_of (N := N) tabOK mixed (callOK_list (l := phiL_laws_toClaimPartS N) (allc rfl (con_laws_toClaimPart N) trivial)) (inl0_ok _) ok_laws_toClaimPartS (by decide) fun a => run_laws_toClaimPartS N a
def an_laws_toClaimBook : Nat → Option Ann := fun _ => none
noncomputable def fi_laws_toClaimBook : FI := ⟨Try.f16.results.toList, bodyOf Try.f16.body, Try.f16.ntmps, an_laws_toClaimBook⟩
theorem ok_laws_toClaimBook : FnOK Try.prog 16 fi_laws_toClaimBook := ⟨⟨Try.f16, Try.func16, by kernel_rfl, rfl, rfl, by kernel_rfl⟩, by kernel_rfl⟩
def phiL_laws_toClaimBook (N : Nat) : List (Nat × Summ) := [(54, sm_laws_toClaimFoeS N), (55, sm_laws_toClaimSpotS N), (40, sm_laws_toStringS N), (56, sm_laws_toClaimPartS N)]
def sg_laws_toClaimBook : Summ := sigOf [.d tBook true] false [.own tBook true [(86, none), (64, (some [9])), (9, none), (89, (some [9, 75, 9, 9]))]]
theorem run_laws_toClaimBook (N : Nat) (a : (List ((List UInt8) × (List UInt8))) × ((List ((List UInt8) × ((Int) × ((Int) × ((Int) × (List Txt)))))) × ((List Txt) × ((List (((Int) × ((Int) × ((List Txt) × ((List ((List UInt8) × ((Int) × (Int)))) × ((List Txt) × (List Txt)))))) × (Bool))) × (Int))))) : runST (ofDs [tBook]) (tabOf tabL) (tabS (phiL_laws_toClaimBook N)) inl0 N fi_laws_toClaimBook sg_laws_toClaimBook [⟨tBook, a⟩] = F.laws_toClaimBook N a := by kernel_rfl
def sm_laws_toClaimBook (N : Nat) : Summ := summOf [.d tBook true] false [.own tBook true [(86, none), (64, (some [9])), (9, none), (89, (some [9, 75, 9, 9]))]] [tBook] (F.laws_toClaimBook N)
theorem con_laws_toClaimBook (N : Nat) : Contract Try.prog 16 (sm_laws_toClaimBook N) := con_of (N := N) tabOK mixed (callOK_list (l := phiL_laws_toClaimBook N) (allc rfl (con_laws_toClaimFoeS N) (allc rfl (con_laws_toClaimSpotS N) (allc rfl (con_laws_toStringS N) (allc rfl (con_laws_toClaimPartS N) trivial))))) (inl0_ok _) ok_laws_toClaimBook (by decide) fun a => run_laws_toClaimBook N a
def an_spec_l1In : Nat → Option Ann := fun _ => none
noncomputable def fi_spec_l1In : FI := ⟨Try.f36.results.toList, bodyOf Try.f36.body, Try.f36.ntmps, an_spec_l1In⟩
theorem ok_spec_l1In : FnOK Try.prog 36 fi_spec_l1In := ⟨⟨Try.f36, Try.func36, by kernel_rfl, rfl, rfl, by kernel_rfl⟩, by kernel_rfl⟩
def phiL_spec_l1In (N : Nat) : List (Nat × Summ) := []
def sg_spec_l1In : Summ := sigOf [.d tInt false, .d tInt false, .d tInt false] false [.d (.bool) false]
theorem run_spec_l1In (N : Nat) (n : Int) (low : Int) (high : Int) : runST (ofDs [.bool]) (tabOf tabL) (tabS (phiL_spec_l1In N)) inl0 N fi_spec_l1In sg_spec_l1In [⟨tInt, n⟩, ⟨tInt, low⟩, ⟨tInt, high⟩] = F.spec_l1In N n low high := by kernel_rfl
def sm_spec_l1In (N : Nat) : Summ := summOf [.d tInt false, .d tInt false, .d tInt false] false [.d (.bool) false] [.bool] (F.spec_l1In N)
theorem con_spec_l1In (N : Nat) : Contract Try.prog 36 (sm_spec_l1In N) := con_of (N := N) tabOK mixed (callOK_list (l := phiL_spec_l1In N) trivial) (inl0_ok _) ok_spec_l1In (by decide) fun n low high => run_spec_l1In N n low high
def an_spec_l1NameOk : Nat → Option Ann
  | 0 => some ⟨{ fr := [(0, Dir.keep), (3, Dir.keep)], bx := [], os := [] }, [(0, { fr := [], bx := [], os := [] })], { fr := [(2, Dir.keep)], bx := [], os := [] }⟩
  | _ => none
noncomputable def fi_spec_l1NameOk : FI := ⟨Try.f88.results.toList, bodyOf Try.f88.body, Try.f88.ntmps, an_spec_l1NameOk⟩
theorem ok_spec_l1NameOk : FnOK Try.prog 88 fi_spec_l1NameOk := ⟨⟨Try.f88, Try.func88, by kernel_rfl, rfl, rfl, by kernel_rfl⟩, by kernel_rfl⟩
def phiL_spec_l1NameOk (N : Nat) : List (Nat × Summ) := [(36, sm_spec_l1In N)]
def sg_spec_l1NameOk : Summ := sigOf [.d (.str) false] false [.d (.bool) false]
def S_spec_l1NameOk_0 (s : Txt) (i3 : Int) : St := { fr := [(0, AV.w (V1.one (C.v Ty.str s))), (3, AV.w (V1.one (C.v tInt i3)))], H := [] }
noncomputable def E_spec_l1NameOk (N : Nat) : Env := envOf (tabOf tabL) (tabS (phiL_spec_l1NameOk N)) inl0 N fi_spec_l1NameOk []
noncomputable def K_spec_l1NameOk := (kFun (tabOf tabL) fi_spec_l1NameOk.res (kT (ofDs [.bool]) sg_spec_l1NameOk []))
noncomputable def its_spec_l1NameOk_0 (N : Nat) (n : Nat) : St → Option Bool := fun S' => iter [] (annAt fi_spec_l1NameOk 0) (code (E_spec_l1NameOk N) (lpIn fi_spec_l1NameOk.body 0 0) 0) n S' (contOf (E_spec_l1NameOk N) fi_spec_l1NameOk.body 0 0 K_spec_l1NameOk)
noncomputable def it_spec_l1NameOk_0 (N : Nat) (s : Txt) (n : Nat) : Int → Option Bool := fun i3 => its_spec_l1NameOk_0 N n (S_spec_l1NameOk_0 s i3)
theorem fe_spec_l1NameOk_0 (N : Nat) : it_spec_l1NameOk_0 N = spec_l1NameOk_0 N := funext fun s => funext (lp_all (by kernel_rfl) fun n => by
    show _ = spec_l1NameOk_0r N s (it_spec_l1NameOk_0 N s n)
    kernel_rfl)
theorem run_spec_l1NameOk (N : Nat) (s : List UInt8) : runST (ofDs [.bool]) (tabOf tabL) (tabS (phiL_spec_l1NameOk N)) inl0 N fi_spec_l1NameOk sg_spec_l1NameOk [⟨.str, s⟩] = F.spec_l1NameOk N s := by
    show _ = F.spec_l1NameOkb N (F.spec_l1NameOk_0 N) s
    rw [← fe_spec_l1NameOk_0 N]
    kernel_rfl
def sm_spec_l1NameOk (N : Nat) : Summ := summOf [.d (.str) false] false [.d (.bool) false] [.bool] (F.spec_l1NameOk N)
theorem con_spec_l1NameOk (N : Nat) : Contract Try.prog 88 (sm_spec_l1NameOk N) := con_of (N := N) tabOK mixed (callOK_list (l := phiL_spec_l1NameOk N) (allc rfl (con_spec_l1In N) trivial)) (inl0_ok _) ok_spec_l1NameOk (by decide) fun s => run_spec_l1NameOk N s
def an_spec_l2FoesOk : Nat → Option Ann
  | 0 => some ⟨{ fr := [(1, Dir.keep), (3, Dir.keep)], bx := [(1, [Dir.keep, Dir.keep, Dir.keep, Dir.keep, Dir.keep])], os := [] }, [(0, { fr := [], bx := [], os := [] })], { fr := [(2, Dir.keep)], bx := [], os := [] }⟩
  | _ => none
noncomputable def fi_spec_l2FoesOk : FI := ⟨Try.f51.results.toList, bodyOf Try.f51.body, Try.f51.ntmps, an_spec_l2FoesOk⟩
theorem ok_spec_l2FoesOk : FnOK Try.prog 51 fi_spec_l2FoesOk := ⟨⟨Try.f51, Try.func51, by kernel_rfl, rfl, rfl, by kernel_rfl⟩, by kernel_rfl⟩
def phiL_spec_l2FoesOk (N : Nat) : List (Nat × Summ) := [(88, sm_spec_l1NameOk N)]
def sg_spec_l2FoesOk : Summ := sigOf [.d tBook true] false [.d (.bool) false]
def S_spec_l2FoesOk_0 (b : Book) (i3 : Int) : St := { fr := [(1, AV.w (V1.one (C.pb 1 0))), (3, AV.w (V1.one (C.v tInt i3)))], H := [(1, Ob.box [C.v tFoe.slice b.1, C.v tSpot.slice b.2.1, C.v tTxts b.2.2.1, C.v tPart.slice b.2.2.2.1, C.v tInt b.2.2.2.2])] }
noncomputable def E_spec_l2FoesOk (N : Nat) : Env := envOf (tabOf tabL) (tabS (phiL_spec_l2FoesOk N)) inl0 N fi_spec_l2FoesOk []
noncomputable def K_spec_l2FoesOk := (kFun (tabOf tabL) fi_spec_l2FoesOk.res (kT (ofDs [.bool]) sg_spec_l2FoesOk []))
noncomputable def its_spec_l2FoesOk_0 (N : Nat) (n : Nat) : St → Option Bool := fun S' => iter [] (annAt fi_spec_l2FoesOk 0) (code (E_spec_l2FoesOk N) (lpIn fi_spec_l2FoesOk.body 0 0) 0) n S' (contOf (E_spec_l2FoesOk N) fi_spec_l2FoesOk.body 0 0 K_spec_l2FoesOk)
noncomputable def it_spec_l2FoesOk_0 (N : Nat) (b : Book) (n : Nat) : Int → Option Bool := fun i3 => its_spec_l2FoesOk_0 N n (S_spec_l2FoesOk_0 b i3)
theorem fe_spec_l2FoesOk_0 (N : Nat) : it_spec_l2FoesOk_0 N = spec_l2FoesOk_0 N := funext fun b => funext (lp_all (by kernel_rfl) fun n => by
    show _ = spec_l2FoesOk_0r N b (it_spec_l2FoesOk_0 N b n)
    kernel_rfl)
theorem run_spec_l2FoesOk (N : Nat) (b : (List ((List UInt8) × (List UInt8))) × ((List ((List UInt8) × ((Int) × ((Int) × ((Int) × (List Txt)))))) × ((List Txt) × ((List (((Int) × ((Int) × ((List Txt) × ((List ((List UInt8) × ((Int) × (Int)))) × ((List Txt) × (List Txt)))))) × (Bool))) × (Int))))) : runST (ofDs [.bool]) (tabOf tabL) (tabS (phiL_spec_l2FoesOk N)) inl0 N fi_spec_l2FoesOk sg_spec_l2FoesOk [⟨tBook, b⟩] = F.spec_l2FoesOk N b := by
    show _ = F.spec_l2FoesOkb N (F.spec_l2FoesOk_0 N) b
    rw [← fe_spec_l2FoesOk_0 N]
    kernel_rfl
def sm_spec_l2FoesOk (N : Nat) : Summ := summOf [.d tBook true] false [.d (.bool) false] [.bool] (F.spec_l2FoesOk N)
theorem con_spec_l2FoesOk (N : Nat) : Contract Try.prog 51 (sm_spec_l2FoesOk N) := con_of (N := N) tabOK mixed (callOK_list (l := phiL_spec_l2FoesOk N) (allc rfl (con_spec_l1NameOk N) trivial)) (inl0_ok _) ok_spec_l2FoesOk (by decide) fun b => run_spec_l2FoesOk N b
def an_spec_l1NamesOk : Nat → Option Ann
  | 0 => some ⟨{ fr := [(0, Dir.keep), (5, Dir.keep)], bx := [], os := [] }, [(0, { fr := [], bx := [], os := [] })], { fr := [(4, Dir.keep)], bx := [], os := [] }⟩
  | _ => none
noncomputable def fi_spec_l1NamesOk : FI := ⟨Try.f38.results.toList, bodyOf Try.f38.body, Try.f38.ntmps, an_spec_l1NamesOk⟩
theorem ok_spec_l1NamesOk : FnOK Try.prog 38 fi_spec_l1NamesOk := ⟨⟨Try.f38, Try.func38, by kernel_rfl, rfl, rfl, by kernel_rfl⟩, by kernel_rfl⟩
def phiL_spec_l1NamesOk (N : Nat) : List (Nat × Summ) := [(88, sm_spec_l1NameOk N)]
def sg_spec_l1NamesOk : Summ := sigOf [.d tTxts false, .d tInt false] false [.d (.bool) false]
def S_spec_l1NamesOk_0 (list : List Txt) (i5 : Int) : St := { fr := [(0, AV.w (V1.one (C.v tTxts list))), (5, AV.w (V1.one (C.v tInt i5)))], H := [] }
noncomputable def E_spec_l1NamesOk (N : Nat) : Env := envOf (tabOf tabL) (tabS (phiL_spec_l1NamesOk N)) inl0 N fi_spec_l1NamesOk []
noncomputable def K_spec_l1NamesOk := (kFun (tabOf tabL) fi_spec_l1NamesOk.res (kT (ofDs [.bool]) sg_spec_l1NamesOk []))
noncomputable def its_spec_l1NamesOk_0 (N : Nat) (n : Nat) : St → Option Bool := fun S' => iter [] (annAt fi_spec_l1NamesOk 0) (code (E_spec_l1NamesOk N) (lpIn fi_spec_l1NamesOk.body 0 0) 0) n S' (contOf (E_spec_l1NamesOk N) fi_spec_l1NamesOk.body 0 0 K_spec_l1NamesOk)
noncomputable def it_spec_l1NamesOk_0 (N : Nat) (list : List Txt) (n : Nat) : Int → Option Bool := fun i5 => its_spec_l1NamesOk_0 N n (S_spec_l1NamesOk_0 list i5)
theorem fe_spec_l1NamesOk_0 (N : Nat) : it_spec_l1NamesOk_0 N = spec_l1NamesOk_0 N := funext fun list => funext (lp_all (by kernel_rfl) fun n => by
    show _ = spec_l1NamesOk_0r N list (it_spec_l1NamesOk_0 N list n)
    kernel_rfl)
theorem run_spec_l1NamesOk (N : Nat) (list : List (List UInt8)) (most : Int) : runST (ofDs [.bool]) (tabOf tabL) (tabS (phiL_spec_l1NamesOk N)) inl0 N fi_spec_l1NamesOk sg_spec_l1NamesOk [⟨tTxts, list⟩, ⟨tInt, most⟩] = F.spec_l1NamesOk N list most := by
    show _ = F.spec_l1NamesOkb N (F.spec_l1NamesOk_0 N) list most
    rw [← fe_spec_l1NamesOk_0 N]
    kernel_rfl
def sm_spec_l1NamesOk (N : Nat) : Summ := summOf [.d tTxts false, .d tInt false] false [.d (.bool) false] [.bool] (F.spec_l1NamesOk N)
theorem con_spec_l1NamesOk (N : Nat) : Contract Try.prog 38 (sm_spec_l1NamesOk N) := con_of (N := N) tabOK mixed (callOK_list (l := phiL_spec_l1NamesOk N) (allc rfl (con_spec_l1NameOk N) trivial)) (inl0_ok _) ok_spec_l1NamesOk (by decide) fun list most => run_spec_l1NamesOk N list most
def an_spec_l2Foes : Nat → Option Ann
  | 0 => some ⟨{ fr := [(1, Dir.keep), (2, Dir.keep), (3, Dir.keep), (7, Dir.keep)], bx := [(3, [Dir.keep, Dir.keep, Dir.keep, Dir.keep, Dir.keep])], os := [] }, [(0, { fr := [], bx := [], os := [] })], { fr := [(6, Dir.keep)], bx := [], os := [] }⟩
  | _ => none
noncomputable def fi_spec_l2Foes : FI := ⟨Try.f126.results.toList, bodyOf Try.f126.body, Try.f126.ntmps, an_spec_l2Foes⟩
theorem ok_spec_l2Foes : FnOK Try.prog 126 fi_spec_l2Foes := ⟨⟨Try.f126, Try.func126, by kernel_rfl, rfl, rfl, by kernel_rfl⟩, by kernel_rfl⟩
def phiL_spec_l2Foes (N : Nat) : List (Nat × Summ) := []
def sg_spec_l2Foes : Summ := sigOf [.d tBook true, .d (.str) false, .d (.str) false] false [.d (.bool) false]
def S_spec_l2Foes_0 (b : Book) (x : Txt) (y : Txt) (i7 : Int) : St := { fr := [(1, AV.w (V1.one (C.v Ty.str x))), (2, AV.w (V1.one (C.v Ty.str y))), (3, AV.w (V1.one (C.pb 3 0))), (7, AV.w (V1.one (C.v tInt i7)))], H := [(3, Ob.box [C.v tFoe.slice b.1, C.v tSpot.slice b.2.1, C.v tTxts b.2.2.1, C.v tPart.slice b.2.2.2.1, C.v tInt b.2.2.2.2])] }
noncomputable def E_spec_l2Foes (N : Nat) : Env := envOf (tabOf tabL) (tabS (phiL_spec_l2Foes N)) inl0 N fi_spec_l2Foes []
noncomputable def K_spec_l2Foes := (kFun (tabOf tabL) fi_spec_l2Foes.res (kT (ofDs [.bool]) sg_spec_l2Foes []))
noncomputable def its_spec_l2Foes_0 (N : Nat) (n : Nat) : St → Option Bool := fun S' => iter [] (annAt fi_spec_l2Foes 0) (code (E_spec_l2Foes N) (lpIn fi_spec_l2Foes.body 0 0) 0) n S' (contOf (E_spec_l2Foes N) fi_spec_l2Foes.body 0 0 K_spec_l2Foes)
noncomputable def it_spec_l2Foes_0 (N : Nat) (b : Book) (x : Txt) (y : Txt) (n : Nat) : Int → Option Bool := fun i7 => its_spec_l2Foes_0 N n (S_spec_l2Foes_0 b x y i7)
theorem fe_spec_l2Foes_0 (N : Nat) : it_spec_l2Foes_0 N = spec_l2Foes_0 N := funext fun b => funext fun x => funext fun y => funext (lp_all (by kernel_rfl) fun n => by
    show _ = spec_l2Foes_0r N b x y (it_spec_l2Foes_0 N b x y n)
    kernel_rfl)
theorem run_spec_l2Foes (N : Nat) (b : (List ((List UInt8) × (List UInt8))) × ((List ((List UInt8) × ((Int) × ((Int) × ((Int) × (List Txt)))))) × ((List Txt) × ((List (((Int) × ((Int) × ((List Txt) × ((List ((List UInt8) × ((Int) × (Int)))) × ((List Txt) × (List Txt)))))) × (Bool))) × (Int))))) (x : List UInt8) (y : List UInt8) : runST (ofDs [.bool]) (tabOf tabL) (tabS (phiL_spec_l2Foes N)) inl0 N fi_spec_l2Foes sg_spec_l2Foes [⟨tBook, b⟩, ⟨.str, x⟩, ⟨.str, y⟩] = F.spec_l2Foes N b x y := by
    show _ = F.spec_l2Foesb N (F.spec_l2Foes_0 N) b x y
    rw [← fe_spec_l2Foes_0 N]
    kernel_rfl
def sm_spec_l2Foes (N : Nat) : Summ := summOf [.d tBook true, .d (.str) false, .d (.str) false] false [.d (.bool) false] [.bool] (F.spec_l2Foes N)
theorem con_spec_l2Foes (N : Nat) : Contract Try.prog 126 (sm_spec_l2Foes N) := con_of (N := N) tabOK mixed (callOK_list (l := phiL_spec_l2Foes N) trivial) (inl0_ok _) ok_spec_l2Foes (by decide) fun b x y => run_spec_l2Foes N b x y
def an_spec_l2Clash : Nat → Option Ann
  | 0 => some ⟨{ fr := [(1, Dir.keep), (2, Dir.keep), (3, Dir.keep), (7, Dir.keep)], bx := [(3, [Dir.keep, Dir.keep, Dir.keep, Dir.keep, Dir.keep])], os := [] }, [(0, { fr := [], bx := [], os := [] })], { fr := [(6, Dir.keep)], bx := [], os := [] }⟩
  | _ => none
noncomputable def fi_spec_l2Clash : FI := ⟨Try.f96.results.toList, bodyOf Try.f96.body, Try.f96.ntmps, an_spec_l2Clash⟩
theorem ok_spec_l2Clash : FnOK Try.prog 96 fi_spec_l2Clash := ⟨⟨Try.f96, Try.func96, by kernel_rfl, rfl, rfl, by kernel_rfl⟩, by kernel_rfl⟩
def phiL_spec_l2Clash (N : Nat) : List (Nat × Summ) := [(126, sm_spec_l2Foes N)]
def sg_spec_l2Clash : Summ := sigOf [.d tBook true, .d (.str) false, .d tTxts false] false [.d (.bool) false]
def S_spec_l2Clash_0 (b : Book) (stuff : Txt) (may : List Txt) (i7 : Int) : St := { fr := [(1, AV.w (V1.one (C.v Ty.str stuff))), (2, AV.w (V1.one (C.v tTxts may))), (3, AV.w (V1.one (C.pb 3 0))), (7, AV.w (V1.one (C.v tInt i7)))], H := [(3, Ob.box [C.v tFoe.slice b.1, C.v tSpot.slice b.2.1, C.v tTxts b.2.2.1, C.v tPart.slice b.2.2.2.1, C.v tInt b.2.2.2.2])] }
noncomputable def E_spec_l2Clash (N : Nat) : Env := envOf (tabOf tabL) (tabS (phiL_spec_l2Clash N)) inl0 N fi_spec_l2Clash []
noncomputable def K_spec_l2Clash := (kFun (tabOf tabL) fi_spec_l2Clash.res (kT (ofDs [.bool]) sg_spec_l2Clash []))
noncomputable def its_spec_l2Clash_0 (N : Nat) (n : Nat) : St → Option Bool := fun S' => iter [] (annAt fi_spec_l2Clash 0) (code (E_spec_l2Clash N) (lpIn fi_spec_l2Clash.body 0 0) 0) n S' (contOf (E_spec_l2Clash N) fi_spec_l2Clash.body 0 0 K_spec_l2Clash)
noncomputable def it_spec_l2Clash_0 (N : Nat) (b : Book) (stuff : Txt) (may : List Txt) (n : Nat) : Int → Option Bool := fun i7 => its_spec_l2Clash_0 N n (S_spec_l2Clash_0 b stuff may i7)
theorem fe_spec_l2Clash_0 (N : Nat) : it_spec_l2Clash_0 N = spec_l2Clash_0 N := funext fun b => funext fun stuff => funext fun may => funext (lp_all (by kernel_rfl) fun n => by
    show _ = spec_l2Clash_0r N b stuff may (it_spec_l2Clash_0 N b stuff may n)
    kernel_rfl)
theorem run_spec_l2Clash (N : Nat) (b : (List ((List UInt8) × (List UInt8))) × ((List ((List UInt8) × ((Int) × ((Int) × ((Int) × (List Txt)))))) × ((List Txt) × ((List (((Int) × ((Int) × ((List Txt) × ((List ((List UInt8) × ((Int) × (Int)))) × ((List Txt) × (List Txt)))))) × (Bool))) × (Int))))) (stuff : List UInt8) (may : List (List UInt8)) : runST (ofDs [.bool]) (tabOf tabL) (tabS (phiL_spec_l2Clash N)) inl0 N fi_spec_l2Clash sg_spec_l2Clash [⟨tBook, b⟩, ⟨.str, stuff⟩, ⟨tTxts, may⟩] = F.spec_l2Clash N b stuff may := by
    show _ = F.spec_l2Clashb N (F.spec_l2Clash_0 N) b stuff may
    rw [← fe_spec_l2Clash_0 N]
    kernel_rfl
def sm_spec_l2Clash (N : Nat) : Summ := summOf [.d tBook true, .d (.str) false, .d tTxts false] false [.d (.bool) false] [.bool] (F.spec_l2Clash N)
theorem con_spec_l2Clash (N : Nat) : Contract Try.prog 96 (sm_spec_l2Clash N) := con_of (N := N) tabOK mixed (callOK_list (l := phiL_spec_l2Clash N) (allc rfl (con_spec_l2Foes N) trivial)) (inl0_ok _) ok_spec_l2Clash (by decide) fun b stuff may => run_spec_l2Clash N b stuff may
def an_spec_l2SpotOk : Nat → Option Ann
  | 0 => some ⟨{ fr := [(2, Dir.keep), (3, Dir.keep), (5, Dir.keep)], bx := [(2, [Dir.keep, Dir.keep, Dir.keep, Dir.keep, Dir.keep]), (3, [Dir.keep, Dir.keep, Dir.keep, Dir.keep, Dir.keep])], os := [] }, [(0, { fr := [], bx := [], os := [] })], { fr := [(4, Dir.keep)], bx := [], os := [] }⟩
  | _ => none
noncomputable def fi_spec_l2SpotOk : FI := ⟨Try.f52.results.toList, bodyOf Try.f52.body, Try.f52.ntmps, an_spec_l2SpotOk⟩
theorem ok_spec_l2SpotOk : FnOK Try.prog 52 fi_spec_l2SpotOk := ⟨⟨Try.f52, Try.func52, by kernel_rfl, rfl, rfl, by kernel_rfl⟩, by kernel_rfl⟩
def phiL_spec_l2SpotOk (N : Nat) : List (Nat × Summ) := [(88, sm_spec_l1NameOk N), (36, sm_spec_l1In N), (38, sm_spec_l1NamesOk N), (96, sm_spec_l2Clash N)]
def sg_spec_l2SpotOk : Summ := sigOf [.d tBook true, .d tSpot true] false [.d (.bool) false]
def S_spec_l2SpotOk_0 (b : Book) (s : Spot) (i5 : Int) : St := { fr := [(2, AV.w (V1.one (C.pb 2 0))), (3, AV.w (V1.one (C.pb 3 0))), (5, AV.w (V1.one (C.v tInt i5)))], H := [(2, Ob.box [C.v tFoe.slice b.1, C.v tSpot.slice b.2.1, C.v tTxts b.2.2.1, C.v tPart.slice b.2.2.2.1, C.v tInt b.2.2.2.2]), (3, Ob.box [C.v Ty.str s.1, C.v tInt s.2.1, C.v tInt s.2.2.1, C.v tInt s.2.2.2.1, C.v tTxts s.2.2.2.2])] }
noncomputable def E_spec_l2SpotOk (N : Nat) : Env := envOf (tabOf tabL) (tabS (phiL_spec_l2SpotOk N)) inl0 N fi_spec_l2SpotOk []
noncomputable def K_spec_l2SpotOk := (kFun (tabOf tabL) fi_spec_l2SpotOk.res (kT (ofDs [.bool]) sg_spec_l2SpotOk []))
noncomputable def its_spec_l2SpotOk_0 (N : Nat) (n : Nat) : St → Option Bool := fun S' => iter [] (annAt fi_spec_l2SpotOk 0) (code (E_spec_l2SpotOk N) (lpIn fi_spec_l2SpotOk.body 0 0) 0) n S' (contOf (E_spec_l2SpotOk N) fi_spec_l2SpotOk.body 0 0 K_spec_l2SpotOk)
noncomputable def it_spec_l2SpotOk_0 (N : Nat) (b : Book) (s : Spot) (n : Nat) : Int → Option Bool := fun i5 => its_spec_l2SpotOk_0 N n (S_spec_l2SpotOk_0 b s i5)
theorem fe_spec_l2SpotOk_0 (N : Nat) : it_spec_l2SpotOk_0 N = spec_l2SpotOk_0 N := funext fun b => funext fun s => funext (lp_all (by kernel_rfl) fun n => by
    show _ = spec_l2SpotOk_0r N b s (it_spec_l2SpotOk_0 N b s n)
    kernel_rfl)
theorem run_spec_l2SpotOk (N : Nat) (b : (List ((List UInt8) × (List UInt8))) × ((List ((List UInt8) × ((Int) × ((Int) × ((Int) × (List Txt)))))) × ((List Txt) × ((List (((Int) × ((Int) × ((List Txt) × ((List ((List UInt8) × ((Int) × (Int)))) × ((List Txt) × (List Txt)))))) × (Bool))) × (Int))))) (s : (List UInt8) × ((Int) × ((Int) × ((Int) × (List Txt))))) : runST (ofDs [.bool]) (tabOf tabL) (tabS (phiL_spec_l2SpotOk N)) inl0 N fi_spec_l2SpotOk sg_spec_l2SpotOk [⟨tBook, b⟩, ⟨tSpot, s⟩] = F.spec_l2SpotOk N b s := by
    show _ = F.spec_l2SpotOkb N (F.spec_l2SpotOk_0 N) b s
    rw [← fe_spec_l2SpotOk_0 N]
    kernel_rfl
def sm_spec_l2SpotOk (N : Nat) : Summ := summOf [.d tBook true, .d tSpot true] false [.d (.bool) false] [.bool] (F.spec_l2SpotOk N)
theorem con_spec_l2SpotOk (N : Nat) : Contract Try.prog 52 (sm_spec_l2SpotOk N) := con_of (N := N) tabOK mixed (callOK_list (l := phiL_spec_l2SpotOk N) (allc rfl (con_spec_l1NameOk N) (allc rfl (con_spec_l1In N) (allc rfl (con_spec_l1NamesOk N) (allc rfl (con_spec_l2Clash N) trivial))))) (inl0_ok _) ok_spec_l2SpotOk (by decide) fun b s => run_spec_l2SpotOk N b s
def an_spec_l1UsesOk : Nat → Option Ann
  | 0 => some ⟨{ fr := [(1, Dir.keep), (3, Dir.keep)], bx := [(1, [Dir.keep, Dir.keep, Dir.keep, Dir.keep, Dir.keep, Dir.keep])], os := [] }, [(0, { fr := [], bx := [], os := [] })], { fr := [(2, Dir.keep)], bx := [], os := [] }⟩
  | _ => none
noncomputable def fi_spec_l1UsesOk : FI := ⟨Try.f37.results.toList, bodyOf Try.f37.body, Try.f37.ntmps, an_spec_l1UsesOk⟩
theorem ok_spec_l1UsesOk : FnOK Try.prog 37 fi_spec_l1UsesOk := ⟨⟨Try.f37, Try.func37, by kernel_rfl, rfl, rfl, by kernel_rfl⟩, by kernel_rfl⟩
def phiL_spec_l1UsesOk (N : Nat) : List (Nat × Summ) := [(88, sm_spec_l1NameOk N), (36, sm_spec_l1In N)]
def sg_spec_l1UsesOk : Summ := sigOf [.d tWant true] false [.d (.bool) false]
def S_spec_l1UsesOk_0 (w : Want) (i3 : Int) : St := { fr := [(1, AV.w (V1.one (C.pb 1 0))), (3, AV.w (V1.one (C.v tInt i3)))], H := [(1, Ob.box [C.v tInt w.1, C.v tInt w.2.1, C.v tTxts w.2.2.1, C.v tUse.slice w.2.2.2.1, C.v tTxts w.2.2.2.2.1, C.v tTxts w.2.2.2.2.2])] }
noncomputable def E_spec_l1UsesOk (N : Nat) : Env := envOf (tabOf tabL) (tabS (phiL_spec_l1UsesOk N)) inl0 N fi_spec_l1UsesOk []
noncomputable def K_spec_l1UsesOk := (kFun (tabOf tabL) fi_spec_l1UsesOk.res (kT (ofDs [.bool]) sg_spec_l1UsesOk []))
noncomputable def its_spec_l1UsesOk_0 (N : Nat) (n : Nat) : St → Option Bool := fun S' => iter [] (annAt fi_spec_l1UsesOk 0) (code (E_spec_l1UsesOk N) (lpIn fi_spec_l1UsesOk.body 0 0) 0) n S' (contOf (E_spec_l1UsesOk N) fi_spec_l1UsesOk.body 0 0 K_spec_l1UsesOk)
noncomputable def it_spec_l1UsesOk_0 (N : Nat) (w : Want) (n : Nat) : Int → Option Bool := fun i3 => its_spec_l1UsesOk_0 N n (S_spec_l1UsesOk_0 w i3)
theorem fe_spec_l1UsesOk_0 (N : Nat) : it_spec_l1UsesOk_0 N = spec_l1UsesOk_0 N := funext fun w => funext (lp_all (by kernel_rfl) fun n => by
    show _ = spec_l1UsesOk_0r N w (it_spec_l1UsesOk_0 N w n)
    kernel_rfl)
theorem run_spec_l1UsesOk (N : Nat) (w : (Int) × ((Int) × ((List Txt) × ((List ((List UInt8) × ((Int) × (Int)))) × ((List Txt) × (List Txt)))))) : runST (ofDs [.bool]) (tabOf tabL) (tabS (phiL_spec_l1UsesOk N)) inl0 N fi_spec_l1UsesOk sg_spec_l1UsesOk [⟨tWant, w⟩] = F.spec_l1UsesOk N w := by
    show _ = F.spec_l1UsesOkb N (F.spec_l1UsesOk_0 N) w
    rw [← fe_spec_l1UsesOk_0 N]
    kernel_rfl
def sm_spec_l1UsesOk (N : Nat) : Summ := summOf [.d tWant true] false [.d (.bool) false] [.bool] (F.spec_l1UsesOk N)
theorem con_spec_l1UsesOk (N : Nat) : Contract Try.prog 37 (sm_spec_l1UsesOk N) := con_of (N := N) tabOK mixed (callOK_list (l := phiL_spec_l1UsesOk N) (allc rfl (con_spec_l1NameOk N) (allc rfl (con_spec_l1In N) trivial))) (inl0_ok _) ok_spec_l1UsesOk (by decide) fun w => run_spec_l1UsesOk N w
def an_spec_l1Has : Nat → Option Ann
  | 0 => some ⟨{ fr := [(0, Dir.keep), (1, Dir.keep), (5, Dir.keep)], bx := [], os := [] }, [(0, { fr := [], bx := [], os := [] })], { fr := [(4, Dir.keep)], bx := [], os := [] }⟩
  | _ => none
noncomputable def fi_spec_l1Has : FI := ⟨Try.f65.results.toList, bodyOf Try.f65.body, Try.f65.ntmps, an_spec_l1Has⟩
theorem ok_spec_l1Has : FnOK Try.prog 65 fi_spec_l1Has := ⟨⟨Try.f65, Try.func65, by kernel_rfl, rfl, rfl, by kernel_rfl⟩, by kernel_rfl⟩
def phiL_spec_l1Has (N : Nat) : List (Nat × Summ) := []
def sg_spec_l1Has : Summ := sigOf [.d tTxts false, .d (.str) false] false [.d (.bool) false]
def S_spec_l1Has_0 (list : List Txt) (name : Txt) (i5 : Int) : St := { fr := [(0, AV.w (V1.one (C.v tTxts list))), (1, AV.w (V1.one (C.v Ty.str name))), (5, AV.w (V1.one (C.v tInt i5)))], H := [] }
noncomputable def E_spec_l1Has (N : Nat) : Env := envOf (tabOf tabL) (tabS (phiL_spec_l1Has N)) inl0 N fi_spec_l1Has []
noncomputable def K_spec_l1Has := (kFun (tabOf tabL) fi_spec_l1Has.res (kT (ofDs [.bool]) sg_spec_l1Has []))
noncomputable def its_spec_l1Has_0 (N : Nat) (n : Nat) : St → Option Bool := fun S' => iter [] (annAt fi_spec_l1Has 0) (code (E_spec_l1Has N) (lpIn fi_spec_l1Has.body 0 0) 0) n S' (contOf (E_spec_l1Has N) fi_spec_l1Has.body 0 0 K_spec_l1Has)
noncomputable def it_spec_l1Has_0 (N : Nat) (list : List Txt) (name : Txt) (n : Nat) : Int → Option Bool := fun i5 => its_spec_l1Has_0 N n (S_spec_l1Has_0 list name i5)
theorem fe_spec_l1Has_0 (N : Nat) : it_spec_l1Has_0 N = spec_l1Has_0 N := funext fun list => funext fun name => funext (lp_all (by kernel_rfl) fun n => by
    show _ = spec_l1Has_0r N list name (it_spec_l1Has_0 N list name n)
    kernel_rfl)
theorem run_spec_l1Has (N : Nat) (list : List (List UInt8)) (name : List UInt8) : runST (ofDs [.bool]) (tabOf tabL) (tabS (phiL_spec_l1Has N)) inl0 N fi_spec_l1Has sg_spec_l1Has [⟨tTxts, list⟩, ⟨.str, name⟩] = F.spec_l1Has N list name := by
    show _ = F.spec_l1Hasb N (F.spec_l1Has_0 N) list name
    rw [← fe_spec_l1Has_0 N]
    kernel_rfl
def sm_spec_l1Has (N : Nat) : Summ := summOf [.d tTxts false, .d (.str) false] false [.d (.bool) false] [.bool] (F.spec_l1Has N)
theorem con_spec_l1Has (N : Nat) : Contract Try.prog 65 (sm_spec_l1Has N) := con_of (N := N) tabOK mixed (callOK_list (l := phiL_spec_l1Has N) trivial) (inl0_ok _) ok_spec_l1Has (by decide) fun list name => run_spec_l1Has N list name
def an_spec_l1Share : Nat → Option Ann
  | 0 => some ⟨{ fr := [(0, Dir.keep), (1, Dir.keep), (5, Dir.keep)], bx := [], os := [] }, [(0, { fr := [], bx := [], os := [] })], { fr := [(4, Dir.keep)], bx := [], os := [] }⟩
  | _ => none
noncomputable def fi_spec_l1Share : FI := ⟨Try.f39.results.toList, bodyOf Try.f39.body, Try.f39.ntmps, an_spec_l1Share⟩
theorem ok_spec_l1Share : FnOK Try.prog 39 fi_spec_l1Share := ⟨⟨Try.f39, Try.func39, by kernel_rfl, rfl, rfl, by kernel_rfl⟩, by kernel_rfl⟩
def phiL_spec_l1Share (N : Nat) : List (Nat × Summ) := [(65, sm_spec_l1Has N)]
def sg_spec_l1Share : Summ := sigOf [.d tTxts false, .d tTxts false] false [.d (.bool) false]
def S_spec_l1Share_0 (a : List Txt) (b : List Txt) (i5 : Int) : St := { fr := [(0, AV.w (V1.one (C.v tTxts a))), (1, AV.w (V1.one (C.v tTxts b))), (5, AV.w (V1.one (C.v tInt i5)))], H := [] }
noncomputable def E_spec_l1Share (N : Nat) : Env := envOf (tabOf tabL) (tabS (phiL_spec_l1Share N)) inl0 N fi_spec_l1Share []
noncomputable def K_spec_l1Share := (kFun (tabOf tabL) fi_spec_l1Share.res (kT (ofDs [.bool]) sg_spec_l1Share []))
noncomputable def its_spec_l1Share_0 (N : Nat) (n : Nat) : St → Option Bool := fun S' => iter [] (annAt fi_spec_l1Share 0) (code (E_spec_l1Share N) (lpIn fi_spec_l1Share.body 0 0) 0) n S' (contOf (E_spec_l1Share N) fi_spec_l1Share.body 0 0 K_spec_l1Share)
noncomputable def it_spec_l1Share_0 (N : Nat) (a : List Txt) (b : List Txt) (n : Nat) : Int → Option Bool := fun i5 => its_spec_l1Share_0 N n (S_spec_l1Share_0 a b i5)
theorem fe_spec_l1Share_0 (N : Nat) : it_spec_l1Share_0 N = spec_l1Share_0 N := funext fun a => funext fun b => funext (lp_all (by kernel_rfl) fun n => by
    show _ = spec_l1Share_0r N a b (it_spec_l1Share_0 N a b n)
    kernel_rfl)
theorem run_spec_l1Share (N : Nat) (a : List (List UInt8)) (b : List (List UInt8)) : runST (ofDs [.bool]) (tabOf tabL) (tabS (phiL_spec_l1Share N)) inl0 N fi_spec_l1Share sg_spec_l1Share [⟨tTxts, a⟩, ⟨tTxts, b⟩] = F.spec_l1Share N a b := by
    show _ = F.spec_l1Shareb N (F.spec_l1Share_0 N) a b
    rw [← fe_spec_l1Share_0 N]
    kernel_rfl
def sm_spec_l1Share (N : Nat) : Summ := summOf [.d tTxts false, .d tTxts false] false [.d (.bool) false] [.bool] (F.spec_l1Share N)
theorem con_spec_l1Share (N : Nat) : Contract Try.prog 39 (sm_spec_l1Share N) := con_of (N := N) tabOK mixed (callOK_list (l := phiL_spec_l1Share N) (allc rfl (con_spec_l1Has N) trivial)) (inl0_ok _) ok_spec_l1Share (by decide) fun a b => run_spec_l1Share N a b
def an_spec_ClaimWantOk : Nat → Option Ann := fun _ => none
noncomputable def fi_spec_ClaimWantOk : FI := ⟨Try.f10.results.toList, bodyOf Try.f10.body, Try.f10.ntmps, an_spec_ClaimWantOk⟩
theorem ok_spec_ClaimWantOk : FnOK Try.prog 10 fi_spec_ClaimWantOk := ⟨⟨Try.f10, Try.func10, by kernel_rfl, rfl, rfl, by kernel_rfl⟩, by kernel_rfl⟩
def phiL_spec_ClaimWantOk (N : Nat) : List (Nat × Summ) := [(36, sm_spec_l1In N), (37, sm_spec_l1UsesOk N), (38, sm_spec_l1NamesOk N), (39, sm_spec_l1Share N)]
def sg_spec_ClaimWantOk : Summ := sigOf [.d tWant true] false [.d (.bool) false]
theorem run_spec_ClaimWantOk (N : Nat) (w : (Int) × ((Int) × ((List Txt) × ((List ((List UInt8) × ((Int) × (Int)))) × ((List Txt) × (List Txt)))))) : runST (ofDs [.bool]) (tabOf tabL) (tabS (phiL_spec_ClaimWantOk N)) inl0 N fi_spec_ClaimWantOk sg_spec_ClaimWantOk [⟨tWant, w⟩] = F.spec_ClaimWantOk N w := by kernel_rfl
def sm_spec_ClaimWantOk (N : Nat) : Summ := summOf [.d tWant true] false [.d (.bool) false] [.bool] (F.spec_ClaimWantOk N)
theorem con_spec_ClaimWantOk (N : Nat) : Contract Try.prog 10 (sm_spec_ClaimWantOk N) := con_of (N := N) tabOK mixed (callOK_list (l := phiL_spec_ClaimWantOk N) (allc rfl (con_spec_l1In N) (allc rfl (con_spec_l1UsesOk N) (allc rfl (con_spec_l1NamesOk N) (allc rfl (con_spec_l1Share N) trivial))))) (inl0_ok _) ok_spec_ClaimWantOk (by decide) fun w => run_spec_ClaimWantOk N w
def an_spec_l2Spot : Nat → Option Ann
  | 0 => some ⟨{ fr := [(1, Dir.keep), (2, Dir.keep), (5, Dir.keep)], bx := [(2, [Dir.keep, Dir.keep, Dir.keep, Dir.keep, Dir.keep])], os := [] }, [(0, { fr := [], bx := [], os := [] })], { fr := [(4, Dir.keep)], bx := [], os := [] }⟩
  | _ => none
noncomputable def fi_spec_l2Spot : FI := ⟨Try.f84.results.toList, bodyOf Try.f84.body, Try.f84.ntmps, an_spec_l2Spot⟩
theorem ok_spec_l2Spot : FnOK Try.prog 84 fi_spec_l2Spot := ⟨⟨Try.f84, Try.func84, by kernel_rfl, rfl, rfl, by kernel_rfl⟩, by kernel_rfl⟩
def phiL_spec_l2Spot (N : Nat) : List (Nat × Summ) := []
def sg_spec_l2Spot : Summ := sigOf [.d tBook true, .d (.str) false] false [.d tInt false]
def S_spec_l2Spot_0 (b : Book) (name : Txt) (i5 : Int) : St := { fr := [(1, AV.w (V1.one (C.v Ty.str name))), (2, AV.w (V1.one (C.pb 2 0))), (5, AV.w (V1.one (C.v tInt i5)))], H := [(2, Ob.box [C.v tFoe.slice b.1, C.v tSpot.slice b.2.1, C.v tTxts b.2.2.1, C.v tPart.slice b.2.2.2.1, C.v tInt b.2.2.2.2])] }
noncomputable def E_spec_l2Spot (N : Nat) : Env := envOf (tabOf tabL) (tabS (phiL_spec_l2Spot N)) inl0 N fi_spec_l2Spot []
noncomputable def K_spec_l2Spot := (kFun (tabOf tabL) fi_spec_l2Spot.res (kT (ofDs [tInt]) sg_spec_l2Spot []))
noncomputable def its_spec_l2Spot_0 (N : Nat) (n : Nat) : St → Option Int := fun S' => iter [] (annAt fi_spec_l2Spot 0) (code (E_spec_l2Spot N) (lpIn fi_spec_l2Spot.body 0 0) 0) n S' (contOf (E_spec_l2Spot N) fi_spec_l2Spot.body 0 0 K_spec_l2Spot)
noncomputable def it_spec_l2Spot_0 (N : Nat) (b : Book) (name : Txt) (n : Nat) : Int → Option Int := fun i5 => its_spec_l2Spot_0 N n (S_spec_l2Spot_0 b name i5)
theorem fe_spec_l2Spot_0 (N : Nat) : it_spec_l2Spot_0 N = spec_l2Spot_0 N := funext fun b => funext fun name => funext (lp_all (by kernel_rfl) fun n => by
    show _ = spec_l2Spot_0r N b name (it_spec_l2Spot_0 N b name n)
    kernel_rfl)
theorem run_spec_l2Spot (N : Nat) (b : (List ((List UInt8) × (List UInt8))) × ((List ((List UInt8) × ((Int) × ((Int) × ((Int) × (List Txt)))))) × ((List Txt) × ((List (((Int) × ((Int) × ((List Txt) × ((List ((List UInt8) × ((Int) × (Int)))) × ((List Txt) × (List Txt)))))) × (Bool))) × (Int))))) (name : List UInt8) : runST (ofDs [tInt]) (tabOf tabL) (tabS (phiL_spec_l2Spot N)) inl0 N fi_spec_l2Spot sg_spec_l2Spot [⟨tBook, b⟩, ⟨.str, name⟩] = F.spec_l2Spot N b name := by
    show _ = F.spec_l2Spotb N (F.spec_l2Spot_0 N) b name
    rw [← fe_spec_l2Spot_0 N]
    kernel_rfl
def sm_spec_l2Spot (N : Nat) : Summ := summOf [.d tBook true, .d (.str) false] false [.d tInt false] [tInt] (F.spec_l2Spot N)
theorem con_spec_l2Spot (N : Nat) : Contract Try.prog 84 (sm_spec_l2Spot N) := con_of (N := N) tabOK mixed (callOK_list (l := phiL_spec_l2Spot N) trivial) (inl0_ok _) ok_spec_l2Spot (by decide) fun b name => run_spec_l2Spot N b name
def an_spec_l2Knows : Nat → Option Ann
  | 0 => some ⟨{ fr := [(2, Dir.keep), (3, Dir.keep), (5, Dir.keep)], bx := [(2, [Dir.keep, Dir.keep, Dir.keep, Dir.keep, Dir.keep]), (3, [Dir.keep, Dir.keep, Dir.keep, Dir.keep, Dir.keep, Dir.keep])], os := [] }, [(0, { fr := [(2, Dir.keep), (3, Dir.keep)], bx := [(2, [Dir.keep, Dir.keep, Dir.keep, Dir.keep, Dir.keep]), (3, [Dir.keep, Dir.keep, Dir.keep, Dir.keep, Dir.keep, Dir.keep])], os := [] })], { fr := [(4, Dir.keep)], bx := [], os := [] }⟩
  | 2 => some ⟨{ fr := [(2, Dir.keep), (3, Dir.keep), (6, Dir.keep)], bx := [(2, [Dir.keep, Dir.keep, Dir.keep, Dir.keep, Dir.keep]), (3, [Dir.keep, Dir.keep, Dir.keep, Dir.keep, Dir.keep, Dir.keep])], os := [] }, [(2, { fr := [(2, Dir.keep), (3, Dir.keep)], bx := [(2, [Dir.keep, Dir.keep, Dir.keep, Dir.keep, Dir.keep]), (3, [Dir.keep, Dir.keep, Dir.keep, Dir.keep, Dir.keep, Dir.keep])], os := [] })], { fr := [(4, Dir.keep)], bx := [], os := [] }⟩
  | 4 => some ⟨{ fr := [(2, Dir.keep), (3, Dir.keep), (7, Dir.keep)], bx := [(2, [Dir.keep, Dir.keep, Dir.keep, Dir.keep, Dir.keep]), (3, [Dir.keep, Dir.keep, Dir.keep, Dir.keep, Dir.keep, Dir.keep])], os := [] }, [(4, { fr := [], bx := [], os := [] })], { fr := [(4, Dir.keep)], bx := [], os := [] }⟩
  | _ => none
noncomputable def fi_spec_l2Knows : FI := ⟨Try.f127.results.toList, bodyOf Try.f127.body, Try.f127.ntmps, an_spec_l2Knows⟩
theorem ok_spec_l2Knows : FnOK Try.prog 127 fi_spec_l2Knows := ⟨⟨Try.f127, Try.func127, by kernel_rfl, rfl, rfl, by kernel_rfl⟩, by kernel_rfl⟩
def phiL_spec_l2Knows (N : Nat) : List (Nat × Summ) := [(84, sm_spec_l2Spot N), (65, sm_spec_l1Has N)]
def sg_spec_l2Knows : Summ := sigOf [.d tBook true, .d tWant true] false [.d (.bool) false]
def S_spec_l2Knows_4 (b : Book) (w : Want) (i7 : Int) : St := { fr := [(2, AV.w (V1.one (C.pb 2 0))), (3, AV.w (V1.one (C.pb 3 0))), (7, AV.w (V1.one (C.v tInt i7)))], H := [(2, Ob.box [C.v tFoe.slice b.1, C.v tSpot.slice b.2.1, C.v tTxts b.2.2.1, C.v tPart.slice b.2.2.2.1, C.v tInt b.2.2.2.2]), (3, Ob.box [C.v tInt w.1, C.v tInt w.2.1, C.v tTxts w.2.2.1, C.v tUse.slice w.2.2.2.1, C.v tTxts w.2.2.2.2.1, C.v tTxts w.2.2.2.2.2])] }
def S_spec_l2Knows_2 (b : Book) (w : Want) (i6 : Int) : St := { fr := [(2, AV.w (V1.one (C.pb 2 0))), (3, AV.w (V1.one (C.pb 3 0))), (6, AV.w (V1.one (C.v tInt i6)))], H := [(2, Ob.box [C.v tFoe.slice b.1, C.v tSpot.slice b.2.1, C.v tTxts b.2.2.1, C.v tPart.slice b.2.2.2.1, C.v tInt b.2.2.2.2]), (3, Ob.box [C.v tInt w.1, C.v tInt w.2.1, C.v tTxts w.2.2.1, C.v tUse.slice w.2.2.2.1, C.v tTxts w.2.2.2.2.1, C.v tTxts w.2.2.2.2.2])] }
def S_spec_l2Knows_0 (b : Book) (w : Want) (i5 : Int) : St := { fr := [(2, AV.w (V1.one (C.pb 2 0))), (3, AV.w (V1.one (C.pb 3 0))), (5, AV.w (V1.one (C.v tInt i5)))], H := [(2, Ob.box [C.v tFoe.slice b.1, C.v tSpot.slice b.2.1, C.v tTxts b.2.2.1, C.v tPart.slice b.2.2.2.1, C.v tInt b.2.2.2.2]), (3, Ob.box [C.v tInt w.1, C.v tInt w.2.1, C.v tTxts w.2.2.1, C.v tUse.slice w.2.2.2.1, C.v tTxts w.2.2.2.2.1, C.v tTxts w.2.2.2.2.2])] }
noncomputable def E_spec_l2Knows (N : Nat) : Env := envOf (tabOf tabL) (tabS (phiL_spec_l2Knows N)) inl0 N fi_spec_l2Knows []
noncomputable def K_spec_l2Knows := (kFun (tabOf tabL) fi_spec_l2Knows.res (kT (ofDs [.bool]) sg_spec_l2Knows []))
noncomputable def its_spec_l2Knows_4 (N : Nat) (n : Nat) : St → Option Bool := fun S' => iter [] (annAt fi_spec_l2Knows 4) (code (E_spec_l2Knows N) (lpIn fi_spec_l2Knows.body 0 4) 4) n S' (contOf (E_spec_l2Knows N) fi_spec_l2Knows.body 0 4 K_spec_l2Knows)
noncomputable def it_spec_l2Knows_4 (N : Nat) (b : Book) (w : Want) (n : Nat) : Int → Option Bool := fun i7 => its_spec_l2Knows_4 N n (S_spec_l2Knows_4 b w i7)
theorem fe_spec_l2Knows_4 (N : Nat) : it_spec_l2Knows_4 N = spec_l2Knows_4 N := funext fun b => funext fun w => funext (lp_all (by kernel_rfl) fun n => by
    show _ = spec_l2Knows_4r N b w (it_spec_l2Knows_4 N b w n)
    kernel_rfl)
noncomputable def its_spec_l2Knows_2 (N : Nat) (n : Nat) : St → Option Bool := fun S' => iter [] (annAt fi_spec_l2Knows 2) (code (E_spec_l2Knows N) (lpIn fi_spec_l2Knows.body 0 2) 2) n S' (contOf (E_spec_l2Knows N) fi_spec_l2Knows.body 0 2 K_spec_l2Knows)
noncomputable def it_spec_l2Knows_2 (N : Nat) (b : Book) (w : Want) (n : Nat) : Int → Option Bool := fun i6 => its_spec_l2Knows_2 N n (S_spec_l2Knows_2 b w i6)
theorem fe_spec_l2Knows_2 (N : Nat) : it_spec_l2Knows_2 N = spec_l2Knows_2 N := funext fun b => funext fun w => funext (lp_all (by kernel_rfl) fun n => by
    show _ = spec_l2Knows_2r N (spec_l2Knows_4 N) b w (it_spec_l2Knows_2 N b w n)
    rw [show spec_l2Knows_4 N = it_spec_l2Knows_4 N from (fe_spec_l2Knows_4 N).symm]
    kernel_rfl)
noncomputable def its_spec_l2Knows_0 (N : Nat) (n : Nat) : St → Option Bool := fun S' => iter [] (annAt fi_spec_l2Knows 0) (code (E_spec_l2Knows N) (lpIn fi_spec_l2Knows.body 0 0) 0) n S' (contOf (E_spec_l2Knows N) fi_spec_l2Knows.body 0 0 K_spec_l2Knows)
noncomputable def it_spec_l2Knows_0 (N : Nat) (b : Book) (w : Want) (n : Nat) : Int → Option Bool := fun i5 => its_spec_l2Knows_0 N n (S_spec_l2Knows_0 b w i5)
theorem fe_spec_l2Knows_0 (N : Nat) : it_spec_l2Knows_0 N = spec_l2Knows_0 N := funext fun b => funext fun w => funext (lp_all (by kernel_rfl) fun n => by
    show _ = spec_l2Knows_0r N (spec_l2Knows_2 N) b w (it_spec_l2Knows_0 N b w n)
    rw [show spec_l2Knows_2 N = it_spec_l2Knows_2 N from (fe_spec_l2Knows_2 N).symm]
    kernel_rfl)
theorem run_spec_l2Knows (N : Nat) (b : (List ((List UInt8) × (List UInt8))) × ((List ((List UInt8) × ((Int) × ((Int) × ((Int) × (List Txt)))))) × ((List Txt) × ((List (((Int) × ((Int) × ((List Txt) × ((List ((List UInt8) × ((Int) × (Int)))) × ((List Txt) × (List Txt)))))) × (Bool))) × (Int))))) (w : (Int) × ((Int) × ((List Txt) × ((List ((List UInt8) × ((Int) × (Int)))) × ((List Txt) × (List Txt)))))) : runST (ofDs [.bool]) (tabOf tabL) (tabS (phiL_spec_l2Knows N)) inl0 N fi_spec_l2Knows sg_spec_l2Knows [⟨tBook, b⟩, ⟨tWant, w⟩] = F.spec_l2Knows N b w := by
    show _ = F.spec_l2Knowsb N (F.spec_l2Knows_0 N) b w
    rw [← fe_spec_l2Knows_0 N]
    kernel_rfl
def sm_spec_l2Knows (N : Nat) : Summ := summOf [.d tBook true, .d tWant true] false [.d (.bool) false] [.bool] (F.spec_l2Knows N)
theorem con_spec_l2Knows (N : Nat) : Contract Try.prog 127 (sm_spec_l2Knows N) := con_of (N := N) tabOK mixed (callOK_list (l := phiL_spec_l2Knows N) (allc rfl (con_spec_l2Spot N) (allc rfl (con_spec_l1Has N) trivial))) (inl0_ok _) ok_spec_l2Knows (by decide) fun b w => run_spec_l2Knows N b w
def an_spec_l1All : Nat → Option Ann
  | 0 => some ⟨{ fr := [(0, Dir.keep), (1, Dir.keep), (5, Dir.keep)], bx := [], os := [] }, [(0, { fr := [], bx := [], os := [] })], { fr := [(4, Dir.keep)], bx := [], os := [] }⟩
  | _ => none
noncomputable def fi_spec_l1All : FI := ⟨Try.f137.results.toList, bodyOf Try.f137.body, Try.f137.ntmps, an_spec_l1All⟩
theorem ok_spec_l1All : FnOK Try.prog 137 fi_spec_l1All := ⟨⟨Try.f137, Try.func137, by kernel_rfl, rfl, rfl, by kernel_rfl⟩, by kernel_rfl⟩
def phiL_spec_l1All (N : Nat) : List (Nat × Summ) := [(65, sm_spec_l1Has N)]
def sg_spec_l1All : Summ := sigOf [.d tTxts false, .d tTxts false] false [.d (.bool) false]
def S_spec_l1All_0 (a : List Txt) (b : List Txt) (i5 : Int) : St := { fr := [(0, AV.w (V1.one (C.v tTxts a))), (1, AV.w (V1.one (C.v tTxts b))), (5, AV.w (V1.one (C.v tInt i5)))], H := [] }
noncomputable def E_spec_l1All (N : Nat) : Env := envOf (tabOf tabL) (tabS (phiL_spec_l1All N)) inl0 N fi_spec_l1All []
noncomputable def K_spec_l1All := (kFun (tabOf tabL) fi_spec_l1All.res (kT (ofDs [.bool]) sg_spec_l1All []))
noncomputable def its_spec_l1All_0 (N : Nat) (n : Nat) : St → Option Bool := fun S' => iter [] (annAt fi_spec_l1All 0) (code (E_spec_l1All N) (lpIn fi_spec_l1All.body 0 0) 0) n S' (contOf (E_spec_l1All N) fi_spec_l1All.body 0 0 K_spec_l1All)
noncomputable def it_spec_l1All_0 (N : Nat) (a : List Txt) (b : List Txt) (n : Nat) : Int → Option Bool := fun i5 => its_spec_l1All_0 N n (S_spec_l1All_0 a b i5)
theorem fe_spec_l1All_0 (N : Nat) : it_spec_l1All_0 N = spec_l1All_0 N := funext fun a => funext fun b => funext (lp_all (by kernel_rfl) fun n => by
    show _ = spec_l1All_0r N a b (it_spec_l1All_0 N a b n)
    kernel_rfl)
theorem run_spec_l1All (N : Nat) (a : List (List UInt8)) (b : List (List UInt8)) : runST (ofDs [.bool]) (tabOf tabL) (tabS (phiL_spec_l1All N)) inl0 N fi_spec_l1All sg_spec_l1All [⟨tTxts, a⟩, ⟨tTxts, b⟩] = F.spec_l1All N a b := by
    show _ = F.spec_l1Allb N (F.spec_l1All_0 N) a b
    rw [← fe_spec_l1All_0 N]
    kernel_rfl
def sm_spec_l1All (N : Nat) : Summ := summOf [.d tTxts false, .d tTxts false] false [.d (.bool) false] [.bool] (F.spec_l1All N)
theorem con_spec_l1All (N : Nat) : Contract Try.prog 137 (sm_spec_l1All N) := con_of (N := N) tabOK mixed (callOK_list (l := phiL_spec_l1All N) (allc rfl (con_spec_l1Has N) trivial)) (inl0_ok _) ok_spec_l1All (by decide) fun a b => run_spec_l1All N a b
def an_spec_l2UseOk : Nat → Option Ann := fun _ => none
noncomputable def fi_spec_l2UseOk : FI := ⟨Try.f128.results.toList, bodyOf Try.f128.body, Try.f128.ntmps, an_spec_l2UseOk⟩
theorem ok_spec_l2UseOk : FnOK Try.prog 128 fi_spec_l2UseOk := ⟨⟨Try.f128, Try.func128, by kernel_rfl, rfl, rfl, by kernel_rfl⟩, by kernel_rfl⟩
def phiL_spec_l2UseOk (N : Nat) : List (Nat × Summ) := [(137, sm_spec_l1All N)]
def sg_spec_l2UseOk : Summ := sigOf [.d tSpot true, .d tWant true, .d tUse true] false [.d (.bool) false]
theorem run_spec_l2UseOk (N : Nat) (s : (List UInt8) × ((Int) × ((Int) × ((Int) × (List Txt))))) (w : (Int) × ((Int) × ((List Txt) × ((List ((List UInt8) × ((Int) × (Int)))) × ((List Txt) × (List Txt)))))) (u : (List UInt8) × ((Int) × (Int))) : runST (ofDs [.bool]) (tabOf tabL) (tabS (phiL_spec_l2UseOk N)) inl0 N fi_spec_l2UseOk sg_spec_l2UseOk [⟨tSpot, s⟩, ⟨tWant, w⟩, ⟨tUse, u⟩] = F.spec_l2UseOk N s w u := by kernel_rfl
def sm_spec_l2UseOk (N : Nat) : Summ := summOf [.d tSpot true, .d tWant true, .d tUse true] false [.d (.bool) false] [.bool] (F.spec_l2UseOk N)
theorem con_spec_l2UseOk (N : Nat) : Contract Try.prog 128 (sm_spec_l2UseOk N) := con_of (N := N) tabOK mixed (callOK_list (l := phiL_spec_l2UseOk N) (allc rfl (con_spec_l1All N) trivial)) (inl0_ok _) ok_spec_l2UseOk (by decide) fun s w u => run_spec_l2UseOk N s w u
def an_spec_l2PartOk : Nat → Option Ann
  | 0 => some ⟨{ fr := [(2, Dir.keep), (3, Dir.keep), (5, Dir.keep)], bx := [(2, [Dir.keep, Dir.keep, Dir.keep, Dir.keep, Dir.keep]), (3, [Dir.keep, Dir.keep, Dir.keep, Dir.keep, Dir.keep, Dir.keep, Dir.keep])], os := [] }, [(0, { fr := [], bx := [], os := [] })], { fr := [(4, Dir.keep)], bx := [], os := [] }⟩
  | _ => none
noncomputable def fi_spec_l2PartOk : FI := ⟨Try.f97.results.toList, bodyOf Try.f97.body, Try.f97.ntmps, an_spec_l2PartOk⟩
theorem ok_spec_l2PartOk : FnOK Try.prog 97 fi_spec_l2PartOk := ⟨⟨Try.f97, Try.func97, by kernel_rfl, rfl, rfl, by kernel_rfl⟩, by kernel_rfl⟩
def phiL_spec_l2PartOk (N : Nat) : List (Nat × Summ) := [(10, sm_spec_ClaimWantOk N), (127, sm_spec_l2Knows N), (84, sm_spec_l2Spot N), (128, sm_spec_l2UseOk N)]
def sg_spec_l2PartOk : Summ := sigOf [.d tBook true, .d tPart true] false [.d (.bool) false]
def S_spec_l2PartOk_0 (b : Book) (p : Part) (i5 : Int) : St := { fr := [(2, AV.w (V1.one (C.pb 2 0))), (3, AV.w (V1.one (C.pb 3 0))), (5, AV.w (V1.one (C.v tInt i5)))], H := [(2, Ob.box [C.v tFoe.slice b.1, C.v tSpot.slice b.2.1, C.v tTxts b.2.2.1, C.v tPart.slice b.2.2.2.1, C.v tInt b.2.2.2.2]), (3, Ob.box [C.v tInt p.1.1, C.v tInt p.1.2.1, C.v tTxts p.1.2.2.1, C.v tUse.slice p.1.2.2.2.1, C.v tTxts p.1.2.2.2.2.1, C.v tTxts p.1.2.2.2.2.2, C.v Ty.bool p.2])] }
noncomputable def E_spec_l2PartOk (N : Nat) : Env := envOf (tabOf tabL) (tabS (phiL_spec_l2PartOk N)) inl0 N fi_spec_l2PartOk []
noncomputable def K_spec_l2PartOk := (kFun (tabOf tabL) fi_spec_l2PartOk.res (kT (ofDs [.bool]) sg_spec_l2PartOk []))
noncomputable def its_spec_l2PartOk_0 (N : Nat) (n : Nat) : St → Option Bool := fun S' => iter [] (annAt fi_spec_l2PartOk 0) (code (E_spec_l2PartOk N) (lpIn fi_spec_l2PartOk.body 0 0) 0) n S' (contOf (E_spec_l2PartOk N) fi_spec_l2PartOk.body 0 0 K_spec_l2PartOk)
noncomputable def it_spec_l2PartOk_0 (N : Nat) (b : Book) (p : Part) (n : Nat) : Int → Option Bool := fun i5 => its_spec_l2PartOk_0 N n (S_spec_l2PartOk_0 b p i5)
theorem fe_spec_l2PartOk_0 (N : Nat) : it_spec_l2PartOk_0 N = spec_l2PartOk_0 N := funext fun b => funext fun p => funext (lp_all (by kernel_rfl) fun n => by
    show _ = spec_l2PartOk_0r N b p (it_spec_l2PartOk_0 N b p n)
    kernel_rfl)
theorem run_spec_l2PartOk (N : Nat) (b : (List ((List UInt8) × (List UInt8))) × ((List ((List UInt8) × ((Int) × ((Int) × ((Int) × (List Txt)))))) × ((List Txt) × ((List (((Int) × ((Int) × ((List Txt) × ((List ((List UInt8) × ((Int) × (Int)))) × ((List Txt) × (List Txt)))))) × (Bool))) × (Int))))) (p : ((Int) × ((Int) × ((List Txt) × ((List ((List UInt8) × ((Int) × (Int)))) × ((List Txt) × (List Txt)))))) × (Bool)) : runST (ofDs [.bool]) (tabOf tabL) (tabS (phiL_spec_l2PartOk N)) inl0 N fi_spec_l2PartOk sg_spec_l2PartOk [⟨tBook, b⟩, ⟨tPart, p⟩] = F.spec_l2PartOk N b p := by
    show _ = F.spec_l2PartOkb N (F.spec_l2PartOk_0 N) b p
    rw [← fe_spec_l2PartOk_0 N]
    kernel_rfl
def sm_spec_l2PartOk (N : Nat) : Summ := summOf [.d tBook true, .d tPart true] false [.d (.bool) false] [.bool] (F.spec_l2PartOk N)
theorem con_spec_l2PartOk (N : Nat) : Contract Try.prog 97 (sm_spec_l2PartOk N) := con_of (N := N) tabOK mixed (callOK_list (l := phiL_spec_l2PartOk N) (allc rfl (con_spec_ClaimWantOk N) (allc rfl (con_spec_l2Knows N) (allc rfl (con_spec_l2Spot N) (allc rfl (con_spec_l2UseOk N) trivial))))) (inl0_ok _) ok_spec_l2PartOk (by decide) fun b p => run_spec_l2PartOk N b p
def an_spec_l2Uses : Nat → Option Ann
  | 0 => some ⟨{ fr := [(1, Dir.keep), (3, Dir.own 700003 9 Ty.str), (4, Dir.keep)], bx := [(1, [Dir.keep, Dir.keep, Dir.keep, Dir.keep, Dir.keep, Dir.keep])], os := [] }, [(0, { fr := [(3, Dir.own 700003 9 Ty.str)], bx := [], os := [] })], ⟨[], [], []⟩⟩
  | _ => none
noncomputable def fi_spec_l2Uses : FI := ⟨Try.f98.results.toList, bodyOf Try.f98.body, Try.f98.ntmps, an_spec_l2Uses⟩
theorem ok_spec_l2Uses : FnOK Try.prog 98 fi_spec_l2Uses := ⟨⟨Try.f98, Try.func98, by kernel_rfl, rfl, rfl, by kernel_rfl⟩, by kernel_rfl⟩
def phiL_spec_l2Uses (N : Nat) : List (Nat × Summ) := []
def sg_spec_l2Uses : Summ := sigOf [.d tWant true] false [.own tTxts false [(9, none)]]
def S_spec_l2Uses_0 (w : Want) (i4 : Int) (out3a : List Txt) : St := { fr := [(1, AV.w (V1.one (C.pb 1 0))), (3, AV.w (V1.one (C.arr 700003))), (4, AV.w (V1.one (C.v tInt i4)))], H := [(1, Ob.box [C.v tInt w.1, C.v tInt w.2.1, C.v tTxts w.2.2.1, C.v tUse.slice w.2.2.2.1, C.v tTxts w.2.2.2.2.1, C.v tTxts w.2.2.2.2.2]), (700003, Ob.arr 9 Ty.str out3a)] }
noncomputable def E_spec_l2Uses (N : Nat) : Env := envOf (tabOf tabL) (tabS (phiL_spec_l2Uses N)) inl0 N fi_spec_l2Uses []
noncomputable def K_spec_l2Uses := (kFun (tabOf tabL) fi_spec_l2Uses.res (kT (ofDs [tTxts]) sg_spec_l2Uses []))
noncomputable def its_spec_l2Uses_0 (N : Nat) (n : Nat) : St → Option (List Txt) := fun S' => iter [] (annAt fi_spec_l2Uses 0) (code (E_spec_l2Uses N) (lpIn fi_spec_l2Uses.body 0 0) 0) n S' (contOf (E_spec_l2Uses N) fi_spec_l2Uses.body 0 0 K_spec_l2Uses)
noncomputable def it_spec_l2Uses_0 (N : Nat) (w : Want) (n : Nat) : Int → (List Txt) → Option (List Txt) := fun i4 out3a => its_spec_l2Uses_0 N n (S_spec_l2Uses_0 w i4 out3a)
theorem fe_spec_l2Uses_0 (N : Nat) : it_spec_l2Uses_0 N = spec_l2Uses_0 N := funext fun w => funext (lp_all (by kernel_rfl) fun n => by
    show _ = spec_l2Uses_0r N w (it_spec_l2Uses_0 N w n)
    kernel_rfl)
theorem run_spec_l2Uses (N : Nat) (w : (Int) × ((Int) × ((List Txt) × ((List ((List UInt8) × ((Int) × (Int)))) × ((List Txt) × (List Txt)))))) : runST (ofDs [tTxts]) (tabOf tabL) (tabS (phiL_spec_l2Uses N)) inl0 N fi_spec_l2Uses sg_spec_l2Uses [⟨tWant, w⟩] = F.spec_l2Uses N w := by
    show _ = F.spec_l2Usesb N (F.spec_l2Uses_0 N) w
    rw [← fe_spec_l2Uses_0 N]
    kernel_rfl
def sm_spec_l2Uses (N : Nat) : Summ := summOf [.d tWant true] false [.own tTxts false [(9, none)]] [tTxts] (F.spec_l2Uses N)
theorem con_spec_l2Uses (N : Nat) : Contract Try.prog 98 (sm_spec_l2Uses N) := con_of (N := N) tabOK mixed (callOK_list (l := phiL_spec_l2Uses N) trivial) (inl0_ok _) ok_spec_l2Uses (by decide) fun w => run_spec_l2Uses N w
def an_spec_l2Crosses : Nat → Option Ann := fun _ => none
noncomputable def fi_spec_l2Crosses : FI := ⟨Try.f99.results.toList, bodyOf Try.f99.body, Try.f99.ntmps, an_spec_l2Crosses⟩
theorem ok_spec_l2Crosses : FnOK Try.prog 99 fi_spec_l2Crosses := ⟨⟨Try.f99, Try.func99, by kernel_rfl, rfl, rfl, by kernel_rfl⟩, by kernel_rfl⟩
def phiL_spec_l2Crosses (N : Nat) : List (Nat × Summ) := [(39, sm_spec_l1Share N)]
def sg_spec_l2Crosses : Summ := sigOf [.d tWant true, .d tWant true] false [.d (.bool) false]
theorem run_spec_l2Crosses (N : Nat) (a : (Int) × ((Int) × ((List Txt) × ((List ((List UInt8) × ((Int) × (Int)))) × ((List Txt) × (List Txt)))))) (b : (Int) × ((Int) × ((List Txt) × ((List ((List UInt8) × ((Int) × (Int)))) × ((List Txt) × (List Txt)))))) : runST (ofDs [.bool]) (tabOf tabL) (tabS (phiL_spec_l2Crosses N)) inl0 N fi_spec_l2Crosses sg_spec_l2Crosses [⟨tWant, a⟩, ⟨tWant, b⟩] = F.spec_l2Crosses N a b := by kernel_rfl
def sm_spec_l2Crosses (N : Nat) : Summ := summOf [.d tWant true, .d tWant true] false [.d (.bool) false] [.bool] (F.spec_l2Crosses N)
theorem con_spec_l2Crosses (N : Nat) : Contract Try.prog 99 (sm_spec_l2Crosses N) := con_of (N := N) tabOK mixed (callOK_list (l := phiL_spec_l2Crosses N) (allc rfl (con_spec_l1Share N) trivial)) (inl0_ok _) ok_spec_l2Crosses (by decide) fun a b => run_spec_l2Crosses N a b
def an_spec_l2PartsOk : Nat → Option Ann
  | 0 => some ⟨{ fr := [(1, Dir.keep), (3, Dir.keep)], bx := [(1, [Dir.keep, Dir.keep, Dir.keep, Dir.keep, Dir.keep])], os := [] }, [(0, { fr := [], bx := [], os := [] })], { fr := [(2, Dir.keep)], bx := [], os := [] }⟩
  | 2 => some ⟨{ fr := [(1, Dir.keep), (3, Dir.keep), (4, Dir.keep), (5, Dir.keep)], bx := [(1, [Dir.keep, Dir.keep, Dir.keep, Dir.keep, Dir.keep]), (4, [Dir.keep, Dir.keep, Dir.keep, Dir.keep, Dir.keep, Dir.keep])], os := [] }, [(2, { fr := [(1, Dir.keep), (3, Dir.keep)], bx := [(1, [Dir.keep, Dir.keep, Dir.keep, Dir.keep, Dir.keep])], os := [] })], { fr := [(2, Dir.keep)], bx := [], os := [] }⟩
  | _ => none
noncomputable def fi_spec_l2PartsOk : FI := ⟨Try.f53.results.toList, bodyOf Try.f53.body, Try.f53.ntmps, an_spec_l2PartsOk⟩
theorem ok_spec_l2PartsOk : FnOK Try.prog 53 fi_spec_l2PartsOk := ⟨⟨Try.f53, Try.func53, by kernel_rfl, rfl, rfl, by kernel_rfl⟩, by kernel_rfl⟩
def phiL_spec_l2PartsOk (N : Nat) : List (Nat × Summ) := [(97, sm_spec_l2PartOk N), (98, sm_spec_l2Uses N), (39, sm_spec_l1Share N), (99, sm_spec_l2Crosses N)]
def sg_spec_l2PartsOk : Summ := sigOf [.d tBook true] false [.d (.bool) false]
def S_spec_l2PartsOk_2 (b : Book) (i3 : Int) (w4c0 : Int) (w4c1 : Int) (w4c2 : List Txt) (w4c3 : List Use) (w4c4 : List Txt) (w4c5 : List Txt) (k5 : Int) : St := { fr := [(1, AV.w (V1.one (C.pb 1 0))), (3, AV.w (V1.one (C.v tInt i3))), (4, AV.w (V1.one (C.pb 4 0))), (5, AV.w (V1.one (C.v tInt k5)))], H := [(1, Ob.box [C.v tFoe.slice b.1, C.v tSpot.slice b.2.1, C.v tTxts b.2.2.1, C.v tPart.slice b.2.2.2.1, C.v tInt b.2.2.2.2]), (4, Ob.box [C.v tInt w4c0, C.v tInt w4c1, C.v tTxts w4c2, C.v tUse.slice w4c3, C.v tTxts w4c4, C.v tTxts w4c5])] }
def S_spec_l2PartsOk_0 (b : Book) (i3 : Int) : St := { fr := [(1, AV.w (V1.one (C.pb 1 0))), (3, AV.w (V1.one (C.v tInt i3)))], H := [(1, Ob.box [C.v tFoe.slice b.1, C.v tSpot.slice b.2.1, C.v tTxts b.2.2.1, C.v tPart.slice b.2.2.2.1, C.v tInt b.2.2.2.2])] }
noncomputable def E_spec_l2PartsOk (N : Nat) : Env := envOf (tabOf tabL) (tabS (phiL_spec_l2PartsOk N)) inl0 N fi_spec_l2PartsOk []
noncomputable def K_spec_l2PartsOk := (kFun (tabOf tabL) fi_spec_l2PartsOk.res (kT (ofDs [.bool]) sg_spec_l2PartsOk []))
noncomputable def its_spec_l2PartsOk_2 (N : Nat) (nxS0 : St → Option Bool) (n : Nat) : St → Option Bool := fun S' => iter [] (annAt fi_spec_l2PartsOk 2) (code (E_spec_l2PartsOk N) (lpIn (lpIn fi_spec_l2PartsOk.body 0 0) 0 2) 2) n S' (contOf (E_spec_l2PartsOk N) (lpIn fi_spec_l2PartsOk.body 0 0) 0 2 (kLoop [] (annAt fi_spec_l2PartsOk 0) nxS0 (contOf (E_spec_l2PartsOk N) fi_spec_l2PartsOk.body 0 0 K_spec_l2PartsOk)))
noncomputable def it_spec_l2PartsOk_2 (N : Nat) (nxS0 : St → Option Bool) (b : Book) (i3 : Int) (w4c0 : Int) (w4c1 : Int) (w4c2 : List Txt) (w4c3 : List Use) (w4c4 : List Txt) (w4c5 : List Txt) (n : Nat) : Int → Option Bool := fun k5 => its_spec_l2PartsOk_2 N nxS0 n (S_spec_l2PartsOk_2 b i3 w4c0 w4c1 w4c2 w4c3 w4c4 w4c5 k5)
theorem fe_spec_l2PartsOk_2 (N : Nat) (nxS0 : St → Option Bool) (b : Book) : it_spec_l2PartsOk_2 N nxS0 b = spec_l2PartsOk_2 N (fun i3 => nxS0 (S_spec_l2PartsOk_0 b i3)) b := funext fun i3 => funext fun w4c0 => funext fun w4c1 => funext fun w4c2 => funext fun w4c3 => funext fun w4c4 => funext fun w4c5 => funext (lp_all (by kernel_rfl) fun n => by
    show _ = spec_l2PartsOk_2r N (fun i3 => nxS0 (S_spec_l2PartsOk_0 b i3)) b i3 w4c0 w4c1 w4c2 w4c3 w4c4 w4c5 (it_spec_l2PartsOk_2 N nxS0 b i3 w4c0 w4c1 w4c2 w4c3 w4c4 w4c5 n)
    kernel_rfl)
noncomputable def its_spec_l2PartsOk_0 (N : Nat) (n : Nat) : St → Option Bool := fun S' => iter [] (annAt fi_spec_l2PartsOk 0) (code (E_spec_l2PartsOk N) (lpIn fi_spec_l2PartsOk.body 0 0) 0) n S' (contOf (E_spec_l2PartsOk N) fi_spec_l2PartsOk.body 0 0 K_spec_l2PartsOk)
noncomputable def it_spec_l2PartsOk_0 (N : Nat) (b : Book) (n : Nat) : Int → Option Bool := fun i3 => its_spec_l2PartsOk_0 N n (S_spec_l2PartsOk_0 b i3)
theorem fe_spec_l2PartsOk_0 (N : Nat) : it_spec_l2PartsOk_0 N = spec_l2PartsOk_0 N := funext fun b => funext (lp_all (by kernel_rfl) fun n => by
    show _ = spec_l2PartsOk_0r N (spec_l2PartsOk_2 N (it_spec_l2PartsOk_0 N b n) b) b (it_spec_l2PartsOk_0 N b n)
    rw [show spec_l2PartsOk_2 N (it_spec_l2PartsOk_0 N b n) b = it_spec_l2PartsOk_2 N (its_spec_l2PartsOk_0 N n) b from (fe_spec_l2PartsOk_2 N (its_spec_l2PartsOk_0 N n) b).symm]
    kernel_rfl)
theorem run_spec_l2PartsOk (N : Nat) (b : (List ((List UInt8) × (List UInt8))) × ((List ((List UInt8) × ((Int) × ((Int) × ((Int) × (List Txt)))))) × ((List Txt) × ((List (((Int) × ((Int) × ((List Txt) × ((List ((List UInt8) × ((Int) × (Int)))) × ((List Txt) × (List Txt)))))) × (Bool))) × (Int))))) : runST (ofDs [.bool]) (tabOf tabL) (tabS (phiL_spec_l2PartsOk N)) inl0 N fi_spec_l2PartsOk sg_spec_l2PartsOk [⟨tBook, b⟩] = F.spec_l2PartsOk N b := by
    show _ = F.spec_l2PartsOkb N (F.spec_l2PartsOk_0 N) b
    rw [← fe_spec_l2PartsOk_0 N]
    kernel_rfl
def sm_spec_l2PartsOk (N : Nat) : Summ := summOf [.d tBook true] false [.d (.bool) false] [.bool] (F.spec_l2PartsOk N)
theorem con_spec_l2PartsOk (N : Nat) : Contract Try.prog 53 (sm_spec_l2PartsOk N) := con_of (N := N) tabOK mixed (callOK_list (l := phiL_spec_l2PartsOk N) (allc rfl (con_spec_l2PartOk N) (allc rfl (con_spec_l2Uses N) (allc rfl (con_spec_l1Share N) (allc rfl (con_spec_l2Crosses N) trivial))))) (inl0_ok _) ok_spec_l2PartsOk (by decide) fun b => run_spec_l2PartsOk N b
def an_spec_ClaimBookOk : Nat → Option Ann
  | 0 => some ⟨{ fr := [(1, Dir.keep), (3, Dir.keep)], bx := [(1, [Dir.keep, Dir.keep, Dir.keep, Dir.keep, Dir.keep])], os := [] }, [(0, { fr := [(1, Dir.keep)], bx := [(1, [Dir.keep, Dir.keep, Dir.keep, Dir.keep, Dir.keep])], os := [] })], { fr := [(2, Dir.keep)], bx := [], os := [] }⟩
  | _ => none
noncomputable def fi_spec_ClaimBookOk : FI := ⟨Try.f15.results.toList, bodyOf Try.f15.body, Try.f15.ntmps, an_spec_ClaimBookOk⟩
theorem ok_spec_ClaimBookOk : FnOK Try.prog 15 fi_spec_ClaimBookOk := ⟨⟨Try.f15, Try.func15, by kernel_rfl, rfl, rfl, by kernel_rfl⟩, by kernel_rfl⟩
def phiL_spec_ClaimBookOk (N : Nat) : List (Nat × Summ) := [(51, sm_spec_l2FoesOk N), (38, sm_spec_l1NamesOk N), (36, sm_spec_l1In N), (52, sm_spec_l2SpotOk N), (53, sm_spec_l2PartsOk N)]
def sg_spec_ClaimBookOk : Summ := sigOf [.d tBook true] false [.d (.bool) false]
def S_spec_ClaimBookOk_0 (b : Book) (i3 : Int) : St := { fr := [(1, AV.w (V1.one (C.pb 1 0))), (3, AV.w (V1.one (C.v tInt i3)))], H := [(1, Ob.box [C.v tFoe.slice b.1, C.v tSpot.slice b.2.1, C.v tTxts b.2.2.1, C.v tPart.slice b.2.2.2.1, C.v tInt b.2.2.2.2])] }
noncomputable def E_spec_ClaimBookOk (N : Nat) : Env := envOf (tabOf tabL) (tabS (phiL_spec_ClaimBookOk N)) inl0 N fi_spec_ClaimBookOk []
noncomputable def K_spec_ClaimBookOk := (kFun (tabOf tabL) fi_spec_ClaimBookOk.res (kT (ofDs [.bool]) sg_spec_ClaimBookOk []))
noncomputable def its_spec_ClaimBookOk_0 (N : Nat) (n : Nat) : St → Option Bool := fun S' => iter [] (annAt fi_spec_ClaimBookOk 0) (code (E_spec_ClaimBookOk N) (lpIn fi_spec_ClaimBookOk.body 0 0) 0) n S' (contOf (E_spec_ClaimBookOk N) fi_spec_ClaimBookOk.body 0 0 K_spec_ClaimBookOk)
noncomputable def it_spec_ClaimBookOk_0 (N : Nat) (b : Book) (n : Nat) : Int → Option Bool := fun i3 => its_spec_ClaimBookOk_0 N n (S_spec_ClaimBookOk_0 b i3)
theorem fe_spec_ClaimBookOk_0 (N : Nat) : it_spec_ClaimBookOk_0 N = spec_ClaimBookOk_0 N := funext fun b => funext (lp_all (by kernel_rfl) fun n => by
    show _ = spec_ClaimBookOk_0r N b (it_spec_ClaimBookOk_0 N b n)
    kernel_rfl)
theorem run_spec_ClaimBookOk (N : Nat) (b : (List ((List UInt8) × (List UInt8))) × ((List ((List UInt8) × ((Int) × ((Int) × ((Int) × (List Txt)))))) × ((List Txt) × ((List (((Int) × ((Int) × ((List Txt) × ((List ((List UInt8) × ((Int) × (Int)))) × ((List Txt) × (List Txt)))))) × (Bool))) × (Int))))) : runST (ofDs [.bool]) (tabOf tabL) (tabS (phiL_spec_ClaimBookOk N)) inl0 N fi_spec_ClaimBookOk sg_spec_ClaimBookOk [⟨tBook, b⟩] = F.spec_ClaimBookOk N b := by
    show _ = F.spec_ClaimBookOkb N (F.spec_ClaimBookOk_0 N) b
    rw [← fe_spec_ClaimBookOk_0 N]
    kernel_rfl
def sm_spec_ClaimBookOk (N : Nat) : Summ := summOf [.d tBook true] false [.d (.bool) false] [.bool] (F.spec_ClaimBookOk N)
theorem con_spec_ClaimBookOk (N : Nat) : Contract Try.prog 15 (sm_spec_ClaimBookOk N) := con_of (N := N) tabOK mixed (callOK_list (l := phiL_spec_ClaimBookOk N) (allc rfl (con_spec_l2FoesOk N) (allc rfl (con_spec_l1NamesOk N) (allc rfl (con_spec_l1In N) (allc rfl (con_spec_l2SpotOk N) (allc rfl (con_spec_l2PartsOk N) trivial)))))) (inl0_ok _) ok_spec_ClaimBookOk (by decide) fun b => run_spec_ClaimBookOk N b
def an_spec_ClaimShut : Nat → Option Ann
  | 0 => some ⟨{ fr := [(1, Dir.keep), (2, Dir.keep), (5, Dir.own 700005 3 tInt), (6, Dir.keep)], bx := [(2, [Dir.keep, Dir.keep, Dir.keep, Dir.keep, Dir.keep])], os := [] }, [(0, { fr := [(5, Dir.own 700005 3 tInt)], bx := [], os := [] })], ⟨[], [], []⟩⟩
  | _ => none
noncomputable def fi_spec_ClaimShut : FI := ⟨Try.f21.results.toList, bodyOf Try.f21.body, Try.f21.ntmps, an_spec_ClaimShut⟩
theorem ok_spec_ClaimShut : FnOK Try.prog 21 fi_spec_ClaimShut := ⟨⟨Try.f21, Try.func21, by kernel_rfl, rfl, rfl, by kernel_rfl⟩, by kernel_rfl⟩
def phiL_spec_ClaimShut (N : Nat) : List (Nat × Summ) := [(15, sm_spec_ClaimBookOk N), (65, sm_spec_l1Has N)]
def sg_spec_ClaimShut : Summ := sigOf [.d tBook true, .d (.str) false] false [.own (.slice tInt) false [(3, none)]]
def S_spec_ClaimShut_0 (b : Book) (valve : Txt) (i6 : Int) (out5a : List Int) : St := { fr := [(1, AV.w (V1.one (C.v Ty.str valve))), (2, AV.w (V1.one (C.pb 2 0))), (5, AV.w (V1.one (C.arr 700005))), (6, AV.w (V1.one (C.v tInt i6)))], H := [(2, Ob.box [C.v tFoe.slice b.1, C.v tSpot.slice b.2.1, C.v tTxts b.2.2.1, C.v tPart.slice b.2.2.2.1, C.v tInt b.2.2.2.2]), (700005, Ob.arr 3 tInt out5a)] }
noncomputable def E_spec_ClaimShut (N : Nat) : Env := envOf (tabOf tabL) (tabS (phiL_spec_ClaimShut N)) inl0 N fi_spec_ClaimShut []
noncomputable def K_spec_ClaimShut := (kFun (tabOf tabL) fi_spec_ClaimShut.res (kT (ofDs [.slice tInt]) sg_spec_ClaimShut []))
noncomputable def its_spec_ClaimShut_0 (N : Nat) (n : Nat) : St → Option (List Int) := fun S' => iter [] (annAt fi_spec_ClaimShut 0) (code (E_spec_ClaimShut N) (lpIn fi_spec_ClaimShut.body 0 0) 0) n S' (contOf (E_spec_ClaimShut N) fi_spec_ClaimShut.body 0 0 K_spec_ClaimShut)
noncomputable def it_spec_ClaimShut_0 (N : Nat) (b : Book) (valve : Txt) (n : Nat) : Int → (List Int) → Option (List Int) := fun i6 out5a => its_spec_ClaimShut_0 N n (S_spec_ClaimShut_0 b valve i6 out5a)
theorem fe_spec_ClaimShut_0 (N : Nat) : it_spec_ClaimShut_0 N = spec_ClaimShut_0 N := funext fun b => funext fun valve => funext (lp_all (by kernel_rfl) fun n => by
    show _ = spec_ClaimShut_0r N b valve (it_spec_ClaimShut_0 N b valve n)
    kernel_rfl)
theorem run_spec_ClaimShut (N : Nat) (b : (List ((List UInt8) × (List UInt8))) × ((List ((List UInt8) × ((Int) × ((Int) × ((Int) × (List Txt)))))) × ((List Txt) × ((List (((Int) × ((Int) × ((List Txt) × ((List ((List UInt8) × ((Int) × (Int)))) × ((List Txt) × (List Txt)))))) × (Bool))) × (Int))))) (valve : List UInt8) : runST (ofDs [.slice tInt]) (tabOf tabL) (tabS (phiL_spec_ClaimShut N)) inl0 N fi_spec_ClaimShut sg_spec_ClaimShut [⟨tBook, b⟩, ⟨.str, valve⟩] = F.spec_ClaimShut N b valve := by
    show _ = F.spec_ClaimShutb N (F.spec_ClaimShut_0 N) b valve
    rw [← fe_spec_ClaimShut_0 N]
    kernel_rfl
def sm_spec_ClaimShut (N : Nat) : Summ := summOf [.d tBook true, .d (.str) false] false [.own (.slice tInt) false [(3, none)]] [.slice tInt] (F.spec_ClaimShut N)
theorem con_spec_ClaimShut (N : Nat) : Contract Try.prog 21 (sm_spec_ClaimShut N) := con_of (N := N) tabOK mixed (callOK_list (l := phiL_spec_ClaimShut N) (allc rfl (con_spec_ClaimBookOk N) (allc rfl (con_spec_l1Has N) trivial))) (inl0_ok _) ok_spec_ClaimShut (by decide) fun b valve => run_spec_ClaimShut N b valve
def an_impl_in : Nat → Option Ann := fun _ => none
noncomputable def fi_impl_in : FI := ⟨Try.f42.results.toList, bodyOf Try.f42.body, Try.f42.ntmps, an_impl_in⟩
theorem ok_impl_in : FnOK Try.prog 42 fi_impl_in := ⟨⟨Try.f42, Try.func42, by kernel_rfl, rfl, rfl, by kernel_rfl⟩, by kernel_rfl⟩
def phiL_impl_in (N : Nat) : List (Nat × Summ) := []
def sg_impl_in : Summ := sigOf [.d tInt false, .d tInt false, .d tInt false] false [.d (.bool) false]
theorem run_impl_in (N : Nat) (n : Int) (low : Int) (high : Int) : runST (ofDs [.bool]) (tabOf tabL) (tabS (phiL_impl_in N)) inl0 N fi_impl_in sg_impl_in [⟨tInt, n⟩, ⟨tInt, low⟩, ⟨tInt, high⟩] = F.impl_in N n low high := by kernel_rfl
def sm_impl_in (N : Nat) : Summ := summOf [.d tInt false, .d tInt false, .d tInt false] false [.d (.bool) false] [.bool] (F.impl_in N)
theorem con_impl_in (N : Nat) : Contract Try.prog 42 (sm_impl_in N) := con_of (N := N) tabOK mixed (callOK_list (l := phiL_impl_in N) trivial) (inl0_ok _) ok_impl_in (by decide) fun n low high => run_impl_in N n low high
def an_impl_name : Nat → Option Ann
  | 0 => some ⟨{ fr := [(0, Dir.keep), (3, Dir.keep)], bx := [], os := [] }, [(0, { fr := [], bx := [], os := [] })], { fr := [(2, Dir.keep)], bx := [], os := [] }⟩
  | _ => none
noncomputable def fi_impl_name : FI := ⟨Try.f44.results.toList, bodyOf Try.f44.body, Try.f44.ntmps, an_impl_name⟩
theorem ok_impl_name : FnOK Try.prog 44 fi_impl_name := ⟨⟨Try.f44, Try.func44, by kernel_rfl, rfl, rfl, by kernel_rfl⟩, by kernel_rfl⟩
def phiL_impl_name (N : Nat) : List (Nat × Summ) := [(42, sm_impl_in N)]
def sg_impl_name : Summ := sigOf [.d (.str) false] false [.d (.bool) false]
def S_impl_name_0 (s : Txt) (i3 : Int) : St := { fr := [(0, AV.w (V1.one (C.v Ty.str s))), (3, AV.w (V1.one (C.v tInt i3)))], H := [] }
noncomputable def E_impl_name (N : Nat) : Env := envOf (tabOf tabL) (tabS (phiL_impl_name N)) inl0 N fi_impl_name []
noncomputable def K_impl_name := (kFun (tabOf tabL) fi_impl_name.res (kT (ofDs [.bool]) sg_impl_name []))
noncomputable def its_impl_name_0 (N : Nat) (n : Nat) : St → Option Bool := fun S' => iter [] (annAt fi_impl_name 0) (code (E_impl_name N) (lpIn fi_impl_name.body 0 0) 0) n S' (contOf (E_impl_name N) fi_impl_name.body 0 0 K_impl_name)
noncomputable def it_impl_name_0 (N : Nat) (s : Txt) (n : Nat) : Int → Option Bool := fun i3 => its_impl_name_0 N n (S_impl_name_0 s i3)
theorem fe_impl_name_0 (N : Nat) : it_impl_name_0 N = impl_name_0 N := funext fun s => funext (lp_all (by kernel_rfl) fun n => by
    show _ = impl_name_0r N s (it_impl_name_0 N s n)
    kernel_rfl)
theorem run_impl_name (N : Nat) (s : List UInt8) : runST (ofDs [.bool]) (tabOf tabL) (tabS (phiL_impl_name N)) inl0 N fi_impl_name sg_impl_name [⟨.str, s⟩] = F.impl_name N s := by
    show _ = F.impl_nameb N (F.impl_name_0 N) s
    rw [← fe_impl_name_0 N]
    kernel_rfl
def sm_impl_name (N : Nat) : Summ := summOf [.d (.str) false] false [.d (.bool) false] [.bool] (F.impl_name N)
theorem con_impl_name (N : Nat) : Contract Try.prog 44 (sm_impl_name N) := con_of (N := N) tabOK mixed (callOK_list (l := phiL_impl_name N) (allc rfl (con_impl_in N) trivial)) (inl0_ok _) ok_impl_name (by decide) fun s => run_impl_name N s
def an_impl_names : Nat → Option Ann
  | 0 => some ⟨{ fr := [(0, Dir.keep), (11, Dir.keep), (12, Dir.keep), (13, Dir.keep)], bx := [], os := [] }, [(0, { fr := [], bx := [], os := [] })], { fr := [(4, Dir.keep)], bx := [], os := [] }⟩
  | _ => none
noncomputable def fi_impl_names : FI := ⟨Try.f43.results.toList, bodyOf Try.f43.body, Try.f43.ntmps, an_impl_names⟩
theorem ok_impl_names : FnOK Try.prog 43 fi_impl_names := ⟨⟨Try.f43, Try.func43, by kernel_rfl, rfl, rfl, by kernel_rfl⟩, by kernel_rfl⟩
def phiL_impl_names (N : Nat) : List (Nat × Summ) := [(44, sm_impl_name N)]
def sg_impl_names : Summ := sigOf [.d tTxts false, .d tInt false] false [.d (.bool) false]
def S_impl_names_0 (l : List Txt) (t12 : Int) (t13 : Int) : St := { fr := [(0, AV.w (V1.one (C.v tTxts l))), (11, AV.w (V1.one (C.v tTxts l))), (12, AV.w (V1.one (C.v tInt t12))), (13, AV.w (V1.one (C.v tInt t13)))], H := [] }
noncomputable def E_impl_names (N : Nat) : Env := envOf (tabOf tabL) (tabS (phiL_impl_names N)) inl0 N fi_impl_names []
noncomputable def K_impl_names := (kFun (tabOf tabL) fi_impl_names.res (kT (ofDs [.bool]) sg_impl_names []))
noncomputable def its_impl_names_0 (N : Nat) (n : Nat) : St → Option Bool := fun S' => iter [] (annAt fi_impl_names 0) (code (E_impl_names N) (lpIn fi_impl_names.body 0 0) 0) n S' (contOf (E_impl_names N) fi_impl_names.body 0 0 K_impl_names)
noncomputable def it_impl_names_0 (N : Nat) (l : List Txt) (t12 : Int) (n : Nat) : Int → Option Bool := fun t13 => its_impl_names_0 N n (S_impl_names_0 l t12 t13)
theorem fe_impl_names_0 (N : Nat) : it_impl_names_0 N = impl_names_0 N := funext fun l => funext fun t12 => funext (lp_all (by kernel_rfl) fun n => by
    show _ = impl_names_0r N l t12 (it_impl_names_0 N l t12 n)
    kernel_rfl)
theorem run_impl_names (N : Nat) (l : List (List UInt8)) (most : Int) : runST (ofDs [.bool]) (tabOf tabL) (tabS (phiL_impl_names N)) inl0 N fi_impl_names sg_impl_names [⟨tTxts, l⟩, ⟨tInt, most⟩] = F.impl_names N l most := by
    show _ = F.impl_namesb N (F.impl_names_0 N) l most
    rw [← fe_impl_names_0 N]
    kernel_rfl
def sm_impl_names (N : Nat) : Summ := summOf [.d tTxts false, .d tInt false] false [.d (.bool) false] [.bool] (F.impl_names N)
theorem con_impl_names (N : Nat) : Contract Try.prog 43 (sm_impl_names N) := con_of (N := N) tabOK mixed (callOK_list (l := phiL_impl_names N) (allc rfl (con_impl_name N) trivial)) (inl0_ok _) ok_impl_names (by decide) fun l most => run_impl_names N l most
def an_impl_ClaimFoe_ahead : Nat → Option Ann := fun _ => none
noncomputable def fi_impl_ClaimFoe_ahead : FI := ⟨Try.f57.results.toList, bodyOf Try.f57.body, Try.f57.ntmps, an_impl_ClaimFoe_ahead⟩
theorem ok_impl_ClaimFoe_ahead : FnOK Try.prog 57 fi_impl_ClaimFoe_ahead := ⟨⟨Try.f57, Try.func57, by kernel_rfl, rfl, rfl, by kernel_rfl⟩, by kernel_rfl⟩
def phiL_impl_ClaimFoe_ahead (N : Nat) : List (Nat × Summ) := []
def sg_impl_ClaimFoe_ahead : Summ := sigOf [.d tFoe true, .d tFoe true] false [.d (.bool) false]
theorem run_impl_ClaimFoe_ahead (N : Nat) (f : (List UInt8) × (List UInt8)) (g : (List UInt8) × (List UInt8)) : runST (ofDs [.bool]) (tabOf tabL) (tabS (phiL_impl_ClaimFoe_ahead N)) inl0 N fi_impl_ClaimFoe_ahead sg_impl_ClaimFoe_ahead [⟨tFoe, f⟩, ⟨tFoe, g⟩] = F.impl_ClaimFoe_ahead N f g := by kernel_rfl
def sm_impl_ClaimFoe_ahead (N : Nat) : Summ := summOf [.d tFoe true, .d tFoe true] false [.d (.bool) false] [.bool] (F.impl_ClaimFoe_ahead N)
theorem con_impl_ClaimFoe_ahead (N : Nat) : Contract Try.prog 57 (sm_impl_ClaimFoe_ahead N) := con_of (N := N) tabOK mixed (callOK_list (l := phiL_impl_ClaimFoe_ahead N) trivial) (inl0_ok _) ok_impl_ClaimFoe_ahead (by decide) fun f g => run_impl_ClaimFoe_ahead N f g
def an_slices_Index_string : Nat → Option Ann
  | 0 => some ⟨{ fr := [(0, Dir.keep), (1, Dir.keep), (7, Dir.keep), (8, Dir.keep)], bx := [], os := [] }, [(0, { fr := [], bx := [], os := [] })], { fr := [(4, Dir.keep)], bx := [], os := [] }⟩
  | _ => none
noncomputable def fi_slices_Index_string : FI := ⟨Try.f111.results.toList, bodyOf Try.f111.body, Try.f111.ntmps, an_slices_Index_string⟩
theorem ok_slices_Index_string : FnOK Try.prog 111 fi_slices_Index_string := ⟨⟨Try.f111, Try.func111, by kernel_rfl, rfl, rfl, by kernel_rfl⟩, by kernel_rfl⟩
def phiL_slices_Index_string (N : Nat) : List (Nat × Summ) := []
def sg_slices_Index_string : Summ := sigOf [.d tTxts false, .d (.str) false] false [.d tInt false]
def S_slices_Index_string_0 (s : List Txt) (v : Txt) (t7 : Int) (t8 : Int) : St := { fr := [(0, AV.w (V1.one (C.v tTxts s))), (1, AV.w (V1.one (C.v Ty.str v))), (7, AV.w (V1.one (C.v tInt t7))), (8, AV.w (V1.one (C.v tInt t8)))], H := [] }
noncomputable def E_slices_Index_string (N : Nat) : Env := envOf (tabOf tabL) (tabS (phiL_slices_Index_string N)) inl0 N fi_slices_Index_string []
noncomputable def K_slices_Index_string := (kFun (tabOf tabL) fi_slices_Index_string.res (kT (ofDs [tInt]) sg_slices_Index_string []))
noncomputable def its_slices_Index_string_0 (N : Nat) (n : Nat) : St → Option Int := fun S' => iter [] (annAt fi_slices_Index_string 0) (code (E_slices_Index_string N) (lpIn fi_slices_Index_string.body 0 0) 0) n S' (contOf (E_slices_Index_string N) fi_slices_Index_string.body 0 0 K_slices_Index_string)
noncomputable def it_slices_Index_string_0 (N : Nat) (s : List Txt) (v : Txt) (t7 : Int) (n : Nat) : Int → Option Int := fun t8 => its_slices_Index_string_0 N n (S_slices_Index_string_0 s v t7 t8)
theorem fe_slices_Index_string_0 (N : Nat) : it_slices_Index_string_0 N = slices_Index_string_0 N := funext fun s => funext fun v => funext fun t7 => funext (lp_all (by kernel_rfl) fun n => by
    show _ = slices_Index_string_0r N s v t7 (it_slices_Index_string_0 N s v t7 n)
    kernel_rfl)
theorem run_slices_Index_string (N : Nat) (s : List (List UInt8)) (v : List UInt8) : runST (ofDs [tInt]) (tabOf tabL) (tabS (phiL_slices_Index_string N)) inl0 N fi_slices_Index_string sg_slices_Index_string [⟨tTxts, s⟩, ⟨.str, v⟩] = F.slices_Index_string N s v := by
    show _ = F.slices_Index_stringb N (F.slices_Index_string_0 N) s v
    rw [← fe_slices_Index_string_0 N]
    kernel_rfl
def sm_slices_Index_string (N : Nat) : Summ := summOf [.d tTxts false, .d (.str) false] false [.d tInt false] [tInt] (F.slices_Index_string N)
theorem con_slices_Index_string (N : Nat) : Contract Try.prog 111 (sm_slices_Index_string N) := con_of (N := N) tabOK mixed (callOK_list (l := phiL_slices_Index_string N) trivial) (inl0_ok _) ok_slices_Index_string (by decide) fun s v => run_slices_Index_string N s v
def an_slices_Contains_string : Nat → Option Ann := fun _ => none
noncomputable def fi_slices_Contains_string : FI := ⟨Try.f66.results.toList, bodyOf Try.f66.body, Try.f66.ntmps, an_slices_Contains_string⟩
theorem ok_slices_Contains_string : FnOK Try.prog 66 fi_slices_Contains_string := ⟨⟨Try.f66, Try.func66, by kernel_rfl, rfl, rfl, by kernel_rfl⟩, by kernel_rfl⟩
def phiL_slices_Contains_string (N : Nat) : List (Nat × Summ) := [(111, sm_slices_Index_string N)]
def sg_slices_Contains_string : Summ := sigOf [.d tTxts false, .d (.str) false] false [.d (.bool) false]
theorem run_slices_Contains_string (N : Nat) (s : List (List UInt8)) (v : List UInt8) : runST (ofDs [.bool]) (tabOf tabL) (tabS (phiL_slices_Contains_string N)) inl0 N fi_slices_Contains_string sg_slices_Contains_string [⟨tTxts, s⟩, ⟨.str, v⟩] = F.slices_Contains_string N s v := by kernel_rfl
def sm_slices_Contains_string (N : Nat) : Summ := summOf [.d tTxts false, .d (.str) false] false [.d (.bool) false] [.bool] (F.slices_Contains_string N)
theorem con_slices_Contains_string (N : Nat) : Contract Try.prog 66 (sm_slices_Contains_string N) := con_of (N := N) tabOK mixed (callOK_list (l := phiL_slices_Contains_string N) (allc rfl (con_slices_Index_string N) trivial)) (inl0_ok _) ok_slices_Contains_string (by decide) fun s v => run_slices_Contains_string N s v
def an_impl_ClaimBook_foes : Nat → Option Ann
  | 0 => some ⟨{ fr := [(1, Dir.keep), (2, Dir.keep), (10, Dir.keep), (11, Dir.keep), (12, Dir.keep)], bx := [], os := [] }, [(0, { fr := [], bx := [], os := [] })], { fr := [(6, Dir.keep)], bx := [], os := [] }⟩
  | _ => none
noncomputable def fi_impl_ClaimBook_foes : FI := ⟨Try.f58.results.toList, bodyOf Try.f58.body, Try.f58.ntmps, an_impl_ClaimBook_foes⟩
theorem ok_impl_ClaimBook_foes : FnOK Try.prog 58 fi_impl_ClaimBook_foes := ⟨⟨Try.f58, Try.func58, by kernel_rfl, rfl, rfl, by kernel_rfl⟩, by kernel_rfl⟩
def phiL_impl_ClaimBook_foes (N : Nat) : List (Nat × Summ) := [(66, sm_slices_Contains_string N)]
def sg_impl_ClaimBook_foes : Summ := sigOf [.d tBook true, .d tTxts false, .d tTxts false] false [.d (.bool) false]
def S_impl_ClaimBook_foes_0 (b : Book) (x : List Txt) (y : List Txt) (t11 : Int) (t12 : Int) : St := { fr := [(1, AV.w (V1.one (C.v tTxts x))), (2, AV.w (V1.one (C.v tTxts y))), (10, AV.w (V1.one (C.v tFoe.slice b.1))), (11, AV.w (V1.one (C.v tInt t11))), (12, AV.w (V1.one (C.v tInt t12)))], H := [] }
noncomputable def E_impl_ClaimBook_foes (N : Nat) : Env := envOf (tabOf tabL) (tabS (phiL_impl_ClaimBook_foes N)) inl0 N fi_impl_ClaimBook_foes []
noncomputable def K_impl_ClaimBook_foes := (kFun (tabOf tabL) fi_impl_ClaimBook_foes.res (kT (ofDs [.bool]) sg_impl_ClaimBook_foes []))
noncomputable def its_impl_ClaimBook_foes_0 (N : Nat) (n : Nat) : St → Option Bool := fun S' => iter [] (annAt fi_impl_ClaimBook_foes 0) (code (E_impl_ClaimBook_foes N) (lpIn fi_impl_ClaimBook_foes.body 0 0) 0) n S' (contOf (E_impl_ClaimBook_foes N) fi_impl_ClaimBook_foes.body 0 0 K_impl_ClaimBook_foes)
noncomputable def it_impl_ClaimBook_foes_0 (N : Nat) (b : Book) (x : List Txt) (y : List Txt) (t11 : Int) (n : Nat) : Int → Option Bool := fun t12 => its_impl_ClaimBook_foes_0 N n (S_impl_ClaimBook_foes_0 b x y t11 t12)
theorem fe_impl_ClaimBook_foes_0 (N : Nat) : it_impl_ClaimBook_foes_0 N = impl_ClaimBook_foes_0 N := funext fun b => funext fun x => funext fun y => funext fun t11 => funext (lp_all (by kernel_rfl) fun n => by
    show _ = impl_ClaimBook_foes_0r N b x y t11 (it_impl_ClaimBook_foes_0 N b x y t11 n)
    kernel_rfl)
theorem run_impl_ClaimBook_foes (N : Nat) (b : (List ((List UInt8) × (List UInt8))) × ((List ((List UInt8) × ((Int) × ((Int) × ((Int) × (List Txt)))))) × ((List Txt) × ((List (((Int) × ((Int) × ((List Txt) × ((List ((List UInt8) × ((Int) × (Int)))) × ((List Txt) × (List Txt)))))) × (Bool))) × (Int))))) (x : List (List UInt8)) (y : List (List UInt8)) : runST (ofDs [.bool]) (tabOf tabL) (tabS (phiL_impl_ClaimBook_foes N)) inl0 N fi_impl_ClaimBook_foes sg_impl_ClaimBook_foes [⟨tBook, b⟩, ⟨tTxts, x⟩, ⟨tTxts, y⟩] = F.impl_ClaimBook_foes N b x y := by
    show _ = F.impl_ClaimBook_foesb N (F.impl_ClaimBook_foes_0 N) b x y
    rw [← fe_impl_ClaimBook_foes_0 N]
    kernel_rfl
def sm_impl_ClaimBook_foes (N : Nat) : Summ := summOf [.d tBook true, .d tTxts false, .d tTxts false] false [.d (.bool) false] [.bool] (F.impl_ClaimBook_foes N)
theorem con_impl_ClaimBook_foes (N : Nat) : Contract Try.prog 58 (sm_impl_ClaimBook_foes N) := con_of (N := N) tabOK mixed (callOK_list (l := phiL_impl_ClaimBook_foes N) (allc rfl (con_slices_Contains_string N) trivial)) (inl0_ok _) ok_impl_ClaimBook_foes (by decide) fun b x y => run_impl_ClaimBook_foes N b x y
def an_impl_common_c1 : Nat → Option Ann := fun _ => none
noncomputable def fi_impl_common_c1 : FI := ⟨Try.f91.results.toList, bodyOf Try.f91.body, Try.f91.ntmps, an_impl_common_c1⟩
theorem ok_impl_common_c1 : FnOK Try.prog 91 fi_impl_common_c1 := ⟨⟨Try.f91, Try.func91, by kernel_rfl, rfl, rfl, by kernel_rfl⟩, by kernel_rfl⟩
def phiL_impl_common_c1 (N : Nat) : List (Nat × Summ) := [(66, sm_slices_Contains_string N)]
def sg_impl_common_c1 : Summ := sigOf [.d (.str) false, .bx tTxts] true [.d (.bool) false]
theorem run_impl_common_c1 (N : Nat) (s : List UInt8) (p1 : List (List UInt8)) : runST (ofDs [.bool, tTxts]) (tabOf tabL) (tabS (phiL_impl_common_c1 N)) inl0 N fi_impl_common_c1 sg_impl_common_c1 [⟨.str, s⟩, ⟨tTxts, p1⟩] = F.impl_common_c1 N s p1 := by kernel_rfl
def sm_impl_common_c1 (N : Nat) : Summ := summOf [.d (.str) false, .bx tTxts] true [.d (.bool) false] [.bool, tTxts] (F.impl_common_c1 N)
theorem con_impl_common_c1 (N : Nat) : Contract Try.prog 91 (sm_impl_common_c1 N) := con_of (N := N) tabOK mixed (callOK_list (l := phiL_impl_common_c1 N) (allc rfl (con_slices_Contains_string N) trivial)) (inl0_ok _) ok_impl_common_c1 (by decide) fun s p1 => run_impl_common_c1 N s p1
def an_slices_IndexFunc_string__impl_common_c1 : Nat → Option Ann
  | 0 => some ⟨{ fr := [(0, Dir.keep), (1, Dir.keep), (7, Dir.keep), (8, Dir.keep)], bx := [(500001, [Dir.keep])], os := [] }, [(0, { fr := [], bx := [(500001, [Dir.keep])], os := [] })], { fr := [(4, Dir.keep)], bx := [(500001, [Dir.keep])], os := [] }⟩
  | _ => none
noncomputable def fi_slices_IndexFunc_string__impl_common_c1 : FI := ⟨Try.f125.results.toList, bodyOf Try.f125.body, Try.f125.ntmps, an_slices_IndexFunc_string__impl_common_c1⟩
theorem ok_slices_IndexFunc_string__impl_common_c1 : FnOK Try.prog 125 fi_slices_IndexFunc_string__impl_common_c1 := ⟨⟨Try.f125, Try.func125, by kernel_rfl, rfl, rfl, by kernel_rfl⟩, by kernel_rfl⟩
def phiL_slices_IndexFunc_string__impl_common_c1 (N : Nat) : List (Nat × Summ) := [(91, sm_impl_common_c1 N)]
def sg_slices_IndexFunc_string__impl_common_c1 : Summ := sigOf [.d tTxts false, .cl 91 [tTxts]] true [.d tInt false]
def S_slices_IndexFunc_string__impl_common_c1_0 (s : List Txt) (t7 : Int) (t8 : Int) (fpc0 : List Txt) : St := { fr := [(0, AV.w (V1.one (C.v tTxts s))), (1, AV.w (V1.one (C.fn 91 [500001]))), (7, AV.w (V1.one (C.v tInt t7))), (8, AV.w (V1.one (C.v tInt t8)))], H := [(500001, Ob.box [C.v tTxts fpc0])] }
noncomputable def E_slices_IndexFunc_string__impl_common_c1 (N : Nat) : Env := envOf (tabOf tabL) (tabS (phiL_slices_IndexFunc_string__impl_common_c1 N)) inl0 N fi_slices_IndexFunc_string__impl_common_c1 [500001]
noncomputable def K_slices_IndexFunc_string__impl_common_c1 := (kFun (tabOf tabL) fi_slices_IndexFunc_string__impl_common_c1.res (kT (ofDs [tInt, tTxts]) sg_slices_IndexFunc_string__impl_common_c1 [(500001, .bx tTxts)]))
noncomputable def its_slices_IndexFunc_string__impl_common_c1_0 (N : Nat) (n : Nat) : St → Option (Int × List Txt) := fun S' => iter [500001] (annAt fi_slices_IndexFunc_string__impl_common_c1 0) (code (E_slices_IndexFunc_string__impl_common_c1 N) (lpIn fi_slices_IndexFunc_string__impl_common_c1.body 0 0) 0) n S' (contOf (E_slices_IndexFunc_string__impl_common_c1 N) fi_slices_IndexFunc_string__impl_common_c1.body 0 0 K_slices_IndexFunc_string__impl_common_c1)
noncomputable def it_slices_IndexFunc_string__impl_common_c1_0 (N : Nat) (s : List Txt) (t7 : Int) (n : Nat) : Int → (List Txt) → Option (Int × List Txt) := fun t8 fpc0 => its_slices_IndexFunc_string__impl_common_c1_0 N n (S_slices_IndexFunc_string__impl_common_c1_0 s t7 t8 fpc0)
theorem fe_slices_IndexFunc_string__impl_common_c1_0 (N : Nat) : it_slices_IndexFunc_string__impl_common_c1_0 N = slices_IndexFunc_string__impl_common_c1_0 N := funext fun s => funext fun t7 => funext (lp_all (by kernel_rfl) fun n => by
    show _ = slices_IndexFunc_string__impl_common_c1_0r N s t7 (it_slices_IndexFunc_string__impl_common_c1_0 N s t7 n)
    kernel_rfl)
theorem run_slices_IndexFunc_string__impl_common_c1 (N : Nat) (s : List (List UInt8)) (p1 : List (List UInt8)) : runST (ofDs [tInt, tTxts]) (tabOf tabL) (tabS (phiL_slices_IndexFunc_string__impl_common_c1 N)) inl0 N fi_slices_IndexFunc_string__impl_common_c1 sg_slices_IndexFunc_string__impl_common_c1 [⟨tTxts, s⟩, ⟨tTxts, p1⟩] = F.slices_IndexFunc_string__impl_common_c1 N s p1 := by
    show _ = F.slices_IndexFunc_string__impl_common_c1b N (F.slices_IndexFunc_string__impl_common_c1_0 N) s p1
    rw [← fe_slices_IndexFunc_string__impl_common_c1_0 N]
    kernel_rfl
def sm_slices_IndexFunc_string__impl_common_c1 (N : Nat) : Summ := summOf [.d tTxts false, .cl 91 [tTxts]] true [.d tInt false] [tInt, tTxts] (F.slices_IndexFunc_string__impl_common_c1 N)
theorem con_slices_IndexFunc_string__impl_common_c1 (N : Nat) : Contract Try.prog 125 (sm_slices_IndexFunc_string__impl_common_c1 N) := con_of (N := N) tabOK mixed (callOK_list (l := phiL_slices_IndexFunc_string__impl_common_c1 N) (allc rfl (con_impl_common_c1 N) trivial)) (inl0_ok _) ok_slices_IndexFunc_string__impl_common_c1 (by decide) fun s p1 => run_slices_IndexFunc_string__impl_common_c1 N s p1
def an_slices_ContainsFunc_string__impl_common_c1 : Nat → Option Ann := fun _ => none
noncomputable def fi_slices_ContainsFunc_string__impl_common_c1 : FI := ⟨Try.f90.results.toList, bodyOf Try.f90.body, Try.f90.ntmps, an_slices_ContainsFunc_string__impl_common_c1⟩
theorem ok_slices_ContainsFunc_string__impl_common_c1 : FnOK Try.prog 90 fi_slices_ContainsFunc_string__impl_common_c1 := ⟨⟨Try.f90, Try.func90, by kernel_rfl, rfl, rfl, by kernel_rfl⟩, by kernel_rfl⟩
def phiL_slices_ContainsFunc_string__impl_common_c1 (N : Nat) : List (Nat × Summ) := [(9200125, sm_slices_IndexFunc_string__impl_common_c1 N)]
def sg_slices_ContainsFunc_string__impl_common_c1 : Summ := sigOf [.d tTxts false, .cl 91 [tTxts]] true [.d (.bool) false]
theorem run_slices_ContainsFunc_string__impl_common_c1 (N : Nat) (s : List (List UInt8)) (p1 : List (List UInt8)) : runST (ofDs [.bool, tTxts]) (tabOf tabL) (tabS (phiL_slices_ContainsFunc_string__impl_common_c1 N)) inl0 N fi_slices_ContainsFunc_string__impl_common_c1 sg_slices_ContainsFunc_string__impl_common_c1 [⟨tTxts, s⟩, ⟨tTxts, p1⟩] = F.slices_ContainsFunc_string__impl_common_c1 N s p1 := by kernel_rfl
def sm_slices_ContainsFunc_string__impl_common_c1 (N : Nat) : Summ := summOf [.d tTxts false, .cl 91 [tTxts]] true [.d (.bool) false] [.bool, tTxts] (F.slices_ContainsFunc_string__impl_common_c1 N)
theorem con_slices_ContainsFunc_string__impl_common_c1 (N : Nat) : Contract Try.prog 90 (sm_slices_ContainsFunc_string__impl_common_c1 N) := con_of (N := N) tabOK mixed (callOK_list (l := phiL_slices_ContainsFunc_string__impl_common_c1 N) (allc rfl (con_slices_IndexFunc_string__impl_common_c1 N) trivial)) (inl0_ok _) ok_slices_ContainsFunc_string__impl_common_c1 (by decide) fun s p1 => run_slices_ContainsFunc_string__impl_common_c1 N s p1
def an_impl_common : Nat → Option Ann := fun _ => none
noncomputable def fi_impl_common : FI := ⟨Try.f45.results.toList, bodyOf Try.f45.body, Try.f45.ntmps, an_impl_common⟩
theorem ok_impl_common : FnOK Try.prog 45 fi_impl_common := ⟨⟨Try.f45, Try.func45, by kernel_rfl, rfl, rfl, by kernel_rfl⟩, by kernel_rfl⟩
def phiL_impl_common (N : Nat) : List (Nat × Summ) := [(9200090, sm_slices_ContainsFunc_string__impl_common_c1 N)]
def sg_impl_common : Summ := sigOf [.d tTxts false, .d tTxts false] false [.d (.bool) false]
theorem run_impl_common (N : Nat) (a : List (List UInt8)) (b : List (List UInt8)) : runST (ofDs [.bool]) (tabOf tabL) (tabS (phiL_impl_common N)) inl0 N fi_impl_common sg_impl_common [⟨tTxts, a⟩, ⟨tTxts, b⟩] = F.impl_common N a b := by kernel_rfl
def sm_impl_common (N : Nat) : Summ := summOf [.d tTxts false, .d tTxts false] false [.d (.bool) false] [.bool] (F.impl_common N)
theorem con_impl_common (N : Nat) : Contract Try.prog 45 (sm_impl_common N) := con_of (N := N) tabOK mixed (callOK_list (l := phiL_impl_common N) (allc rfl (con_slices_ContainsFunc_string__impl_common_c1 N) trivial)) (inl0_ok _) ok_impl_common (by decide) fun a b => run_impl_common N a b
def an_impl_ClaimWantOk : Nat → Option Ann
  | 0 => some ⟨{ fr := [(1, Dir.keep), (3, Dir.keep), (40, Dir.keep), (41, Dir.keep), (42, Dir.keep)], bx := [(1, [Dir.keep, Dir.keep, Dir.keep, Dir.keep, Dir.keep, Dir.keep])], os := [] }, [(0, { fr := [(1, Dir.keep), (3, Dir.keep)], bx := [(1, [Dir.keep, Dir.keep, Dir.keep, Dir.keep, Dir.keep, Dir.keep])], os := [] })], { fr := [(2, Dir.keep)], bx := [], os := [] }⟩
  | _ => none
noncomputable def fi_impl_ClaimWantOk : FI := ⟨Try.f12.results.toList, bodyOf Try.f12.body, Try.f12.ntmps, an_impl_ClaimWantOk⟩
theorem ok_impl_ClaimWantOk : FnOK Try.prog 12 fi_impl_ClaimWantOk := ⟨⟨Try.f12, Try.func12, by kernel_rfl, rfl, rfl, by kernel_rfl⟩, by kernel_rfl⟩
def phiL_impl_ClaimWantOk (N : Nat) : List (Nat × Summ) := [(42, sm_impl_in N), (43, sm_impl_names N), (44, sm_impl_name N), (45, sm_impl_common N)]
def sg_impl_ClaimWantOk : Summ := sigOf [.d tWant true] false [.d (.bool) false]
def S_impl_ClaimWantOk_0 (w : Want) (move3 : Bool) (t41 : Int) (t42 : Int) : St := { fr := [(1, AV.w (V1.one (C.pb 1 0))), (3, AV.w (V1.one (C.v Ty.bool move3))), (40, AV.w (V1.one (C.v tUse.slice w.2.2.2.1))), (41, AV.w (V1.one (C.v tInt t41))), (42, AV.w (V1.one (C.v tInt t42)))], H := [(1, Ob.box [C.v tInt w.1, C.v tInt w.2.1, C.v tTxts w.2.2.1, C.v tUse.slice w.2.2.2.1, C.v tTxts w.2.2.2.2.1, C.v tTxts w.2.2.2.2.2])] }
noncomputable def E_impl_ClaimWantOk (N : Nat) : Env := envOf (tabOf tabL) (tabS (phiL_impl_ClaimWantOk N)) inl0 N fi_impl_ClaimWantOk []
noncomputable def K_impl_ClaimWantOk := (kFun (tabOf tabL) fi_impl_ClaimWantOk.res (kT (ofDs [.bool]) sg_impl_ClaimWantOk []))
noncomputable def its_impl_ClaimWantOk_0 (N : Nat) (n : Nat) : St → Option Bool := fun S' => iter [] (annAt fi_impl_ClaimWantOk 0) (code (E_impl_ClaimWantOk N) (lpIn fi_impl_ClaimWantOk.body 0 0) 0) n S' (contOf (E_impl_ClaimWantOk N) fi_impl_ClaimWantOk.body 0 0 K_impl_ClaimWantOk)
noncomputable def it_impl_ClaimWantOk_0 (N : Nat) (w : Want) (move3 : Bool) (t41 : Int) (n : Nat) : Int → Option Bool := fun t42 => its_impl_ClaimWantOk_0 N n (S_impl_ClaimWantOk_0 w move3 t41 t42)
theorem fe_impl_ClaimWantOk_0 (N : Nat) : it_impl_ClaimWantOk_0 N = impl_ClaimWantOk_0 N := funext fun w => funext fun move3 => funext fun t41 => funext (lp_all (by kernel_rfl) fun n => by
    show _ = impl_ClaimWantOk_0r N w move3 t41 (it_impl_ClaimWantOk_0 N w move3 t41 n)
    kernel_rfl)
theorem run_impl_ClaimWantOk (N : Nat) (w : (Int) × ((Int) × ((List Txt) × ((List ((List UInt8) × ((Int) × (Int)))) × ((List Txt) × (List Txt)))))) : runST (ofDs [.bool]) (tabOf tabL) (tabS (phiL_impl_ClaimWantOk N)) inl0 N fi_impl_ClaimWantOk sg_impl_ClaimWantOk [⟨tWant, w⟩] = F.impl_ClaimWantOk N w := by
    show _ = F.impl_ClaimWantOkb N (F.impl_ClaimWantOk_0 N) w
    rw [← fe_impl_ClaimWantOk_0 N]
    kernel_rfl
def sm_impl_ClaimWantOk (N : Nat) : Summ := summOf [.d tWant true] false [.d (.bool) false] [.bool] (F.impl_ClaimWantOk N)
theorem con_impl_ClaimWantOk (N : Nat) : Contract Try.prog 12 (sm_impl_ClaimWantOk N) := con_of (N := N) tabOK mixed (callOK_list (l := phiL_impl_ClaimWantOk N) (allc rfl (con_impl_in N) (allc rfl (con_impl_names N) (allc rfl (con_impl_name N) (allc rfl (con_impl_common N) trivial))))) (inl0_ok _) ok_impl_ClaimWantOk (by decide) fun w => run_impl_ClaimWantOk N w
def an_impl_ClaimBook_at_c1 : Nat → Option Ann := fun _ => none
noncomputable def fi_impl_ClaimBook_at_c1 : FI := ⟨Try.f122.results.toList, bodyOf Try.f122.body, Try.f122.ntmps, an_impl_ClaimBook_at_c1⟩
theorem ok_impl_ClaimBook_at_c1 : FnOK Try.prog 122 fi_impl_ClaimBook_at_c1 := ⟨⟨Try.f122, Try.func122, by kernel_rfl, rfl, rfl, by kernel_rfl⟩, by kernel_rfl⟩
def phiL_impl_ClaimBook_at_c1 (N : Nat) : List (Nat × Summ) := []
def sg_impl_ClaimBook_at_c1 : Summ := sigOf [.d tSpot true, .bx (.str)] true [.d (.bool) false]
theorem run_impl_ClaimBook_at_c1 (N : Nat) (s : (List UInt8) × ((Int) × ((Int) × ((Int) × (List Txt))))) (p1 : List UInt8) : runST (ofDs [.bool, .str]) (tabOf tabL) (tabS (phiL_impl_ClaimBook_at_c1 N)) inl0 N fi_impl_ClaimBook_at_c1 sg_impl_ClaimBook_at_c1 [⟨tSpot, s⟩, ⟨.str, p1⟩] = F.impl_ClaimBook_at_c1 N s p1 := by kernel_rfl
def sm_impl_ClaimBook_at_c1 (N : Nat) : Summ := summOf [.d tSpot true, .bx (.str)] true [.d (.bool) false] [.bool, .str] (F.impl_ClaimBook_at_c1 N)
theorem con_impl_ClaimBook_at_c1 (N : Nat) : Contract Try.prog 122 (sm_impl_ClaimBook_at_c1 N) := con_of (N := N) tabOK mixed (callOK_list (l := phiL_impl_ClaimBook_at_c1 N) trivial) (inl0_ok _) ok_impl_ClaimBook_at_c1 (by decide) fun s p1 => run_impl_ClaimBook_at_c1 N s p1
def an_slices_IndexFunc_ClaimSpot__impl_ClaimBook_at_c1 : Nat → Option Ann
  | 0 => some ⟨{ fr := [(0, Dir.keep), (1, Dir.keep), (7, Dir.keep), (8, Dir.keep)], bx := [(500001, [Dir.keep])], os := [] }, [(0, { fr := [], bx := [(500001, [Dir.keep])], os := [] })], { fr := [(4, Dir.keep)], bx := [(500001, [Dir.keep])], os := [] }⟩
  | _ => none
noncomputable def fi_slices_IndexFunc_ClaimSpot__impl_ClaimBook_at_c1 : FI := ⟨Try.f121.results.toList, bodyOf Try.f121.body, Try.f121.ntmps, an_slices_IndexFunc_ClaimSpot__impl_ClaimBook_at_c1⟩
theorem ok_slices_IndexFunc_ClaimSpot__impl_ClaimBook_at_c1 : FnOK Try.prog 121 fi_slices_IndexFunc_ClaimSpot__impl_ClaimBook_at_c1 := ⟨⟨Try.f121, Try.func121, by kernel_rfl, rfl, rfl, by kernel_rfl⟩, by kernel_rfl⟩
def phiL_slices_IndexFunc_ClaimSpot__impl_ClaimBook_at_c1 (N : Nat) : List (Nat × Summ) := [(122, sm_impl_ClaimBook_at_c1 N)]
def sg_slices_IndexFunc_ClaimSpot__impl_ClaimBook_at_c1 : Summ := sigOf [.d (.slice tSpot) false, .cl 122 [.str]] true [.d tInt false]
def S_slices_IndexFunc_ClaimSpot__impl_ClaimBook_at_c1_0 (s : List Spot) (t7 : Int) (t8 : Int) (fpc0 : Txt) : St := { fr := [(0, AV.w (V1.one (C.v tSpot.slice s))), (1, AV.w (V1.one (C.fn 122 [500001]))), (7, AV.w (V1.one (C.v tInt t7))), (8, AV.w (V1.one (C.v tInt t8)))], H := [(500001, Ob.box [C.v Ty.str fpc0])] }
noncomputable def E_slices_IndexFunc_ClaimSpot__impl_ClaimBook_at_c1 (N : Nat) : Env := envOf (tabOf tabL) (tabS (phiL_slices_IndexFunc_ClaimSpot__impl_ClaimBook_at_c1 N)) inl0 N fi_slices_IndexFunc_ClaimSpot__impl_ClaimBook_at_c1 [500001]
noncomputable def K_slices_IndexFunc_ClaimSpot__impl_ClaimBook_at_c1 := (kFun (tabOf tabL) fi_slices_IndexFunc_ClaimSpot__impl_ClaimBook_at_c1.res (kT (ofDs [tInt, .str]) sg_slices_IndexFunc_ClaimSpot__impl_ClaimBook_at_c1 [(500001, .bx (.str))]))
noncomputable def its_slices_IndexFunc_ClaimSpot__impl_ClaimBook_at_c1_0 (N : Nat) (n : Nat) : St → Option (Int × Txt) := fun S' => iter [500001] (annAt fi_slices_IndexFunc_ClaimSpot__impl_ClaimBook_at_c1 0) (code (E_slices_IndexFunc_ClaimSpot__impl_ClaimBook_at_c1 N) (lpIn fi_slices_IndexFunc_ClaimSpot__impl_ClaimBook_at_c1.body 0 0) 0) n S' (contOf (E_slices_IndexFunc_ClaimSpot__impl_ClaimBook_at_c1 N) fi_slices_IndexFunc_ClaimSpot__impl_ClaimBook_at_c1.body 0 0 K_slices_IndexFunc_ClaimSpot__impl_ClaimBook_at_c1)
noncomputable def it_slices_IndexFunc_ClaimSpot__impl_ClaimBook_at_c1_0 (N : Nat) (s : List Spot) (t7 : Int) (n : Nat) : Int → Txt → Option (Int × Txt) := fun t8 fpc0 => its_slices_IndexFunc_ClaimSpot__impl_ClaimBook_at_c1_0 N n (S_slices_IndexFunc_ClaimSpot__impl_ClaimBook_at_c1_0 s t7 t8 fpc0)
theorem fe_slices_IndexFunc_ClaimSpot__impl_ClaimBook_at_c1_0 (N : Nat) : it_slices_IndexFunc_ClaimSpot__impl_ClaimBook_at_c1_0 N = slices_IndexFunc_ClaimSpot__impl_ClaimBook_at_c1_0 N := funext fun s => funext fun t7 => funext (lp_all (by kernel_rfl) fun n => by
    show _ = slices_IndexFunc_ClaimSpot__impl_ClaimBook_at_c1_0r N s t7 (it_slices_IndexFunc_ClaimSpot__impl_ClaimBook_at_c1_0 N s t7 n)
    kernel_rfl)
theorem run_slices_IndexFunc_ClaimSpot__impl_ClaimBook_at_c1 (N : Nat) (s : List ((List UInt8) × ((Int) × ((Int) × ((Int) × (List Txt)))))) (p1 : List UInt8) : runST (ofDs [tInt, .str]) (tabOf tabL) (tabS (phiL_slices_IndexFunc_ClaimSpot__impl_ClaimBook_at_c1 N)) inl0 N fi_slices_IndexFunc_ClaimSpot__impl_ClaimBook_at_c1 sg_slices_IndexFunc_ClaimSpot__impl_ClaimBook_at_c1 [⟨.slice tSpot, s⟩, ⟨.str, p1⟩] = F.slices_IndexFunc_ClaimSpot__impl_ClaimBook_at_c1 N s p1 := by
    show _ = F.slices_IndexFunc_ClaimSpot__impl_ClaimBook_at_c1b N (F.slices_IndexFunc_ClaimSpot__impl_ClaimBook_at_c1_0 N) s p1
    rw [← fe_slices_IndexFunc_ClaimSpot__impl_ClaimBook_at_c1_0 N]
    kernel_rfl
def sm_slices_IndexFunc_ClaimSpot__impl_ClaimBook_at_c1 (N : Nat) : Summ := summOf [.d (.slice tSpot) false, .cl 122 [.str]] true [.d tInt false] [tInt, .str] (F.slices_IndexFunc_ClaimSpot__impl_ClaimBook_at_c1 N)
theorem con_slices_IndexFunc_ClaimSpot__impl_ClaimBook_at_c1 (N : Nat) : Contract Try.prog 121 (sm_slices_IndexFunc_ClaimSpot__impl_ClaimBook_at_c1 N) := con_of (N := N) tabOK mixed (callOK_list (l := phiL_slices_IndexFunc_ClaimSpot__impl_ClaimBook_at_c1 N) (allc rfl (con_impl_ClaimBook_at_c1 N) trivial)) (inl0_ok _) ok_slices_IndexFunc_ClaimSpot__impl_ClaimBook_at_c1 (by decide) fun s p1 => run_slices_IndexFunc_ClaimSpot__impl_ClaimBook_at_c1 N s p1
def an_impl_ClaimBook_at : Nat → Option Ann := fun _ => none
noncomputable def fi_impl_ClaimBook_at : FI := ⟨Try.f80.results.toList, bodyOf Try.f80.body, Try.f80.ntmps, an_impl_ClaimBook_at⟩
theorem ok_impl_ClaimBook_at : FnOK Try.prog 80 fi_impl_ClaimBook_at := ⟨⟨Try.f80, Try.func80, by kernel_rfl, rfl, rfl, by kernel_rfl⟩, by kernel_rfl⟩
def phiL_impl_ClaimBook_at (N : Nat) : List (Nat × Summ) := [(12300121, sm_slices_IndexFunc_ClaimSpot__impl_ClaimBook_at_c1 N)]
def sg_impl_ClaimBook_at : Summ := sigOf [.d tBook true, .d (.str) false] false [.d tInt false]
theorem run_impl_ClaimBook_at (N : Nat) (b : (List ((List UInt8) × (List UInt8))) × ((List ((List UInt8) × ((Int) × ((Int) × ((Int) × (List Txt)))))) × ((List Txt) × ((List (((Int) × ((Int) × ((List Txt) × ((List ((List UInt8) × ((Int) × (Int)))) × ((List Txt) × (List Txt)))))) × (Bool))) × (Int))))) (n : List UInt8) : runST (ofDs [tInt]) (tabOf tabL) (tabS (phiL_impl_ClaimBook_at N)) inl0 N fi_impl_ClaimBook_at sg_impl_ClaimBook_at [⟨tBook, b⟩, ⟨.str, n⟩] = F.impl_ClaimBook_at N b n := by kernel_rfl
def sm_impl_ClaimBook_at (N : Nat) : Summ := summOf [.d tBook true, .d (.str) false] false [.d tInt false] [tInt] (F.impl_ClaimBook_at N)
theorem con_impl_ClaimBook_at (N : Nat) : Contract Try.prog 80 (sm_impl_ClaimBook_at N) := con_of (N := N) tabOK mixed (callOK_list (l := phiL_impl_ClaimBook_at N) (allc rfl (con_slices_IndexFunc_ClaimSpot__impl_ClaimBook_at_c1 N) trivial)) (inl0_ok _) ok_impl_ClaimBook_at (by decide) fun b n => run_impl_ClaimBook_at N b n
def an_impl_within_c1 : Nat → Option Ann := fun _ => none
noncomputable def fi_impl_within_c1 : FI := ⟨Try.f129.results.toList, bodyOf Try.f129.body, Try.f129.ntmps, an_impl_within_c1⟩
theorem ok_impl_within_c1 : FnOK Try.prog 129 fi_impl_within_c1 := ⟨⟨Try.f129, Try.func129, by kernel_rfl, rfl, rfl, by kernel_rfl⟩, by kernel_rfl⟩
def phiL_impl_within_c1 (N : Nat) : List (Nat × Summ) := [(66, sm_slices_Contains_string N)]
def sg_impl_within_c1 : Summ := sigOf [.d (.str) false, .bx tTxts] true [.d (.bool) false]
theorem run_impl_within_c1 (N : Nat) (s : List UInt8) (p1 : List (List UInt8)) : runST (ofDs [.bool, tTxts]) (tabOf tabL) (tabS (phiL_impl_within_c1 N)) inl0 N fi_impl_within_c1 sg_impl_within_c1 [⟨.str, s⟩, ⟨tTxts, p1⟩] = F.impl_within_c1 N s p1 := by kernel_rfl
def sm_impl_within_c1 (N : Nat) : Summ := summOf [.d (.str) false, .bx tTxts] true [.d (.bool) false] [.bool, tTxts] (F.impl_within_c1 N)
theorem con_impl_within_c1 (N : Nat) : Contract Try.prog 129 (sm_impl_within_c1 N) := con_of (N := N) tabOK mixed (callOK_list (l := phiL_impl_within_c1 N) (allc rfl (con_slices_Contains_string N) trivial)) (inl0_ok _) ok_impl_within_c1 (by decide) fun s p1 => run_impl_within_c1 N s p1
def an_slices_IndexFunc_string__impl_within_c1 : Nat → Option Ann
  | 0 => some ⟨{ fr := [(0, Dir.keep), (1, Dir.keep), (7, Dir.keep), (8, Dir.keep)], bx := [(500001, [Dir.keep])], os := [] }, [(0, { fr := [], bx := [(500001, [Dir.keep])], os := [] })], { fr := [(4, Dir.keep)], bx := [(500001, [Dir.keep])], os := [] }⟩
  | _ => none
noncomputable def fi_slices_IndexFunc_string__impl_within_c1 : FI := ⟨Try.f125.results.toList, bodyOf Try.f125.body, Try.f125.ntmps, an_slices_IndexFunc_string__impl_within_c1⟩
theorem ok_slices_IndexFunc_string__impl_within_c1 : FnOK Try.prog 125 fi_slices_IndexFunc_string__impl_within_c1 := ⟨⟨Try.f125, Try.func125, by kernel_rfl, rfl, rfl, by kernel_rfl⟩, by kernel_rfl⟩
def phiL_slices_IndexFunc_string__impl_within_c1 (N : Nat) : List (Nat × Summ) := [(129, sm_impl_within_c1 N)]
def sg_slices_IndexFunc_string__impl_within_c1 : Summ := sigOf [.d tTxts false, .cl 129 [tTxts]] true [.d tInt false]
def S_slices_IndexFunc_string__impl_within_c1_0 (s : List Txt) (t7 : Int) (t8 : Int) (fpc0 : List Txt) : St := { fr := [(0, AV.w (V1.one (C.v tTxts s))), (1, AV.w (V1.one (C.fn 129 [500001]))), (7, AV.w (V1.one (C.v tInt t7))), (8, AV.w (V1.one (C.v tInt t8)))], H := [(500001, Ob.box [C.v tTxts fpc0])] }
noncomputable def E_slices_IndexFunc_string__impl_within_c1 (N : Nat) : Env := envOf (tabOf tabL) (tabS (phiL_slices_IndexFunc_string__impl_within_c1 N)) inl0 N fi_slices_IndexFunc_string__impl_within_c1 [500001]
noncomputable def K_slices_IndexFunc_string__impl_within_c1 := (kFun (tabOf tabL) fi_slices_IndexFunc_string__impl_within_c1.res (kT (ofDs [tInt, tTxts]) sg_slices_IndexFunc_string__impl_within_c1 [(500001, .bx tTxts)]))
noncomputable def its_slices_IndexFunc_string__impl_within_c1_0 (N : Nat) (n : Nat) : St → Option (Int × List Txt) := fun S' => iter [500001] (annAt fi_slices_IndexFunc_string__impl_within_c1 0) (code (E_slices_IndexFunc_string__impl_within_c1 N) (lpIn fi_slices_IndexFunc_string__impl_within_c1.body 0 0) 0) n S' (contOf (E_slices_IndexFunc_string__impl_within_c1 N) fi_slices_IndexFunc_string__impl_within_c1.body 0 0 K_slices_IndexFunc_string__impl_within_c1)
noncomputable def it_slices_IndexFunc_string__impl_within_c1_0 (N : Nat) (s : List Txt) (t7 : Int) (n : Nat) : Int → (List Txt) → Option (Int × List Txt) := fun t8 fpc0 => its_slices_IndexFunc_string__impl_within_c1_0 N n (S_slices_IndexFunc_string__impl_within_c1_0 s t7 t8 fpc0)
theorem fe_slices_IndexFunc_string__impl_within_c1_0 (N : Nat) : it_slices_IndexFunc_string__impl_within_c1_0 N = slices_IndexFunc_string__impl_within_c1_0 N := funext fun s => funext fun t7 => funext (lp_all (by kernel_rfl) fun n => by
    show _ = slices_IndexFunc_string__impl_within_c1_0r N s t7 (it_slices_IndexFunc_string__impl_within_c1_0 N s t7 n)
    kernel_rfl)
theorem run_slices_IndexFunc_string__impl_within_c1 (N : Nat) (s : List (List UInt8)) (p1 : List (List UInt8)) : runST (ofDs [tInt, tTxts]) (tabOf tabL) (tabS (phiL_slices_IndexFunc_string__impl_within_c1 N)) inl0 N fi_slices_IndexFunc_string__impl_within_c1 sg_slices_IndexFunc_string__impl_within_c1 [⟨tTxts, s⟩, ⟨tTxts, p1⟩] = F.slices_IndexFunc_string__impl_within_c1 N s p1 := by
    show _ = F.slices_IndexFunc_string__impl_within_c1b N (F.slices_IndexFunc_string__impl_within_c1_0 N) s p1
    rw [← fe_slices_IndexFunc_string__impl_within_c1_0 N]
    kernel_rfl
def sm_slices_IndexFunc_string__impl_within_c1 (N : Nat) : Summ := summOf [.d tTxts false, .cl 129 [tTxts]] true [.d tInt false] [tInt, tTxts] (F.slices_IndexFunc_string__impl_within_c1 N)
theorem con_slices_IndexFunc_string__impl_within_c1 (N : Nat) : Contract Try.prog 125 (sm_slices_IndexFunc_string__impl_within_c1 N) := con_of (N := N) tabOK mixed (callOK_list (l := phiL_slices_IndexFunc_string__impl_within_c1 N) (allc rfl (con_impl_within_c1 N) trivial)) (inl0_ok _) ok_slices_IndexFunc_string__impl_within_c1 (by decide) fun s p1 => run_slices_IndexFunc_string__impl_within_c1 N s p1
def an_slices_ContainsFunc_string__impl_within_c1 : Nat → Option Ann := fun _ => none
noncomputable def fi_slices_ContainsFunc_string__impl_within_c1 : FI := ⟨Try.f90.results.toList, bodyOf Try.f90.body, Try.f90.ntmps, an_slices_ContainsFunc_string__impl_within_c1⟩
theorem ok_slices_ContainsFunc_string__impl_within_c1 : FnOK Try.prog 90 fi_slices_ContainsFunc_string__impl_within_c1 := ⟨⟨Try.f90, Try.func90, by kernel_rfl, rfl, rfl, by kernel_rfl⟩, by kernel_rfl⟩
def phiL_slices_ContainsFunc_string__impl_within_c1 (N : Nat) : List (Nat × Summ) := [(13000125, sm_slices_IndexFunc_string__impl_within_c1 N)]
def sg_slices_ContainsFunc_string__impl_within_c1 : Summ := sigOf [.d tTxts false, .cl 129 [tTxts]] true [.d (.bool) false]
theorem run_slices_ContainsFunc_string__impl_within_c1 (N : Nat) (s : List (List UInt8)) (p1 : List (List UInt8)) : runST (ofDs [.bool, tTxts]) (tabOf tabL) (tabS (phiL_slices_ContainsFunc_string__impl_within_c1 N)) inl0 N fi_slices_ContainsFunc_string__impl_within_c1 sg_slices_ContainsFunc_string__impl_within_c1 [⟨tTxts, s⟩, ⟨tTxts, p1⟩] = F.slices_ContainsFunc_string__impl_within_c1 N s p1 := by kernel_rfl
def sm_slices_ContainsFunc_string__impl_within_c1 (N : Nat) : Summ := summOf [.d tTxts false, .cl 129 [tTxts]] true [.d (.bool) false] [.bool, tTxts] (F.slices_ContainsFunc_string__impl_within_c1 N)
theorem con_slices_ContainsFunc_string__impl_within_c1 (N : Nat) : Contract Try.prog 90 (sm_slices_ContainsFunc_string__impl_within_c1 N) := con_of (N := N) tabOK mixed (callOK_list (l := phiL_slices_ContainsFunc_string__impl_within_c1 N) (allc rfl (con_slices_IndexFunc_string__impl_within_c1 N) trivial)) (inl0_ok _) ok_slices_ContainsFunc_string__impl_within_c1 (by decide) fun s p1 => run_slices_ContainsFunc_string__impl_within_c1 N s p1
def an_impl_within : Nat → Option Ann := fun _ => none
noncomputable def fi_impl_within : FI := ⟨Try.f104.results.toList, bodyOf Try.f104.body, Try.f104.ntmps, an_impl_within⟩
theorem ok_impl_within : FnOK Try.prog 104 fi_impl_within := ⟨⟨Try.f104, Try.func104, by kernel_rfl, rfl, rfl, by kernel_rfl⟩, by kernel_rfl⟩
def phiL_impl_within (N : Nat) : List (Nat × Summ) := [(13000090, sm_slices_ContainsFunc_string__impl_within_c1 N)]
def sg_impl_within : Summ := sigOf [.d tTxts false, .d tTxts false] false [.d (.bool) false]
theorem run_impl_within (N : Nat) (a : List (List UInt8)) (b : List (List UInt8)) : runST (ofDs [.bool]) (tabOf tabL) (tabS (phiL_impl_within N)) inl0 N fi_impl_within sg_impl_within [⟨tTxts, a⟩, ⟨tTxts, b⟩] = F.impl_within N a b := by kernel_rfl
def sm_impl_within (N : Nat) : Summ := summOf [.d tTxts false, .d tTxts false] false [.d (.bool) false] [.bool] (F.impl_within N)
theorem con_impl_within (N : Nat) : Contract Try.prog 104 (sm_impl_within N) := con_of (N := N) tabOK mixed (callOK_list (l := phiL_impl_within N) (allc rfl (con_slices_ContainsFunc_string__impl_within_c1 N) trivial)) (inl0_ok _) ok_impl_within (by decide) fun a b => run_impl_within N a b
def an_impl_ClaimBook_knows : Nat → Option Ann
  | 0 => some ⟨{ fr := [(2, Dir.keep), (3, Dir.keep), (8, Dir.keep), (9, Dir.keep), (10, Dir.keep)], bx := [(2, [Dir.keep, Dir.keep, Dir.keep, Dir.keep, Dir.keep]), (3, [Dir.keep, Dir.keep, Dir.keep, Dir.keep, Dir.keep, Dir.keep])], os := [] }, [(0, { fr := [(2, Dir.keep), (3, Dir.keep)], bx := [(2, [Dir.keep, Dir.keep, Dir.keep, Dir.keep, Dir.keep]), (3, [Dir.keep, Dir.keep, Dir.keep, Dir.keep, Dir.keep, Dir.keep])], os := [] })], { fr := [(4, Dir.keep)], bx := [], os := [] }⟩
  | _ => none
noncomputable def fi_impl_ClaimBook_knows : FI := ⟨Try.f103.results.toList, bodyOf Try.f103.body, Try.f103.ntmps, an_impl_ClaimBook_knows⟩
theorem ok_impl_ClaimBook_knows : FnOK Try.prog 103 fi_impl_ClaimBook_knows := ⟨⟨Try.f103, Try.func103, by kernel_rfl, rfl, rfl, by kernel_rfl⟩, by kernel_rfl⟩
def phiL_impl_ClaimBook_knows (N : Nat) : List (Nat × Summ) := [(80, sm_impl_ClaimBook_at N), (104, sm_impl_within N)]
def sg_impl_ClaimBook_knows : Summ := sigOf [.d tBook true, .d tWant true] false [.d (.bool) false]
def S_impl_ClaimBook_knows_0 (b : Book) (w : Want) (t9 : Int) (t10 : Int) : St := { fr := [(2, AV.w (V1.one (C.pb 2 0))), (3, AV.w (V1.one (C.pb 3 0))), (8, AV.w (V1.one (C.v tUse.slice w.2.2.2.1))), (9, AV.w (V1.one (C.v tInt t9))), (10, AV.w (V1.one (C.v tInt t10)))], H := [(2, Ob.box [C.v tFoe.slice b.1, C.v tSpot.slice b.2.1, C.v tTxts b.2.2.1, C.v tPart.slice b.2.2.2.1, C.v tInt b.2.2.2.2]), (3, Ob.box [C.v tInt w.1, C.v tInt w.2.1, C.v tTxts w.2.2.1, C.v tUse.slice w.2.2.2.1, C.v tTxts w.2.2.2.2.1, C.v tTxts w.2.2.2.2.2])] }
noncomputable def E_impl_ClaimBook_knows (N : Nat) : Env := envOf (tabOf tabL) (tabS (phiL_impl_ClaimBook_knows N)) inl0 N fi_impl_ClaimBook_knows []
noncomputable def K_impl_ClaimBook_knows := (kFun (tabOf tabL) fi_impl_ClaimBook_knows.res (kT (ofDs [.bool]) sg_impl_ClaimBook_knows []))
noncomputable def its_impl_ClaimBook_knows_0 (N : Nat) (n : Nat) : St → Option Bool := fun S' => iter [] (annAt fi_impl_ClaimBook_knows 0) (code (E_impl_ClaimBook_knows N) (lpIn fi_impl_ClaimBook_knows.body 0 0) 0) n S' (contOf (E_impl_ClaimBook_knows N) fi_impl_ClaimBook_knows.body 0 0 K_impl_ClaimBook_knows)
noncomputable def it_impl_ClaimBook_knows_0 (N : Nat) (b : Book) (w : Want) (t9 : Int) (n : Nat) : Int → Option Bool := fun t10 => its_impl_ClaimBook_knows_0 N n (S_impl_ClaimBook_knows_0 b w t9 t10)
theorem fe_impl_ClaimBook_knows_0 (N : Nat) : it_impl_ClaimBook_knows_0 N = impl_ClaimBook_knows_0 N := funext fun b => funext fun w => funext fun t9 => funext (lp_all (by kernel_rfl) fun n => by
    show _ = impl_ClaimBook_knows_0r N b w t9 (it_impl_ClaimBook_knows_0 N b w t9 n)
    kernel_rfl)
theorem run_impl_ClaimBook_knows (N : Nat) (b : (List ((List UInt8) × (List UInt8))) × ((List ((List UInt8) × ((Int) × ((Int) × ((Int) × (List Txt)))))) × ((List Txt) × ((List (((Int) × ((Int) × ((List Txt) × ((List ((List UInt8) × ((Int) × (Int)))) × ((List Txt) × (List Txt)))))) × (Bool))) × (Int))))) (w : (Int) × ((Int) × ((List Txt) × ((List ((List UInt8) × ((Int) × (Int)))) × ((List Txt) × (List Txt)))))) : runST (ofDs [.bool]) (tabOf tabL) (tabS (phiL_impl_ClaimBook_knows N)) inl0 N fi_impl_ClaimBook_knows sg_impl_ClaimBook_knows [⟨tBook, b⟩, ⟨tWant, w⟩] = F.impl_ClaimBook_knows N b w := by
    show _ = F.impl_ClaimBook_knowsb N (F.impl_ClaimBook_knows_0 N) b w
    rw [← fe_impl_ClaimBook_knows_0 N]
    kernel_rfl
def sm_impl_ClaimBook_knows (N : Nat) : Summ := summOf [.d tBook true, .d tWant true] false [.d (.bool) false] [.bool] (F.impl_ClaimBook_knows N)
theorem con_impl_ClaimBook_knows (N : Nat) : Contract Try.prog 103 (sm_impl_ClaimBook_knows N) := con_of (N := N) tabOK mixed (callOK_list (l := phiL_impl_ClaimBook_knows N) (allc rfl (con_impl_ClaimBook_at N) (allc rfl (con_impl_within N) trivial))) (inl0_ok _) ok_impl_ClaimBook_knows (by decide) fun b w => run_impl_ClaimBook_knows N b w
def an_impl_ClaimBook_partOk : Nat → Option Ann
  | 0 => some ⟨{ fr := [(2, Dir.keep), (5, Dir.keep), (28, Dir.keep), (29, Dir.keep), (30, Dir.keep)], bx := [(2, [Dir.keep, Dir.keep, Dir.keep, Dir.keep, Dir.keep]), (5, [Dir.keep, Dir.keep, Dir.keep, Dir.keep, Dir.keep, Dir.keep])], os := [] }, [(0, { fr := [], bx := [], os := [] })], { fr := [(4, Dir.keep)], bx := [], os := [] }⟩
  | _ => none
noncomputable def fi_impl_ClaimBook_partOk : FI := ⟨Try.f59.results.toList, bodyOf Try.f59.body, Try.f59.ntmps, an_impl_ClaimBook_partOk⟩
theorem ok_impl_ClaimBook_partOk : FnOK Try.prog 59 fi_impl_ClaimBook_partOk := ⟨⟨Try.f59, Try.func59, by kernel_rfl, rfl, rfl, by kernel_rfl⟩, by kernel_rfl⟩
def phiL_impl_ClaimBook_partOk (N : Nat) : List (Nat × Summ) := [(12, sm_impl_ClaimWantOk N), (103, sm_impl_ClaimBook_knows N), (80, sm_impl_ClaimBook_at N), (104, sm_impl_within N)]
def sg_impl_ClaimBook_partOk : Summ := sigOf [.d tBook true, .d tPart true] false [.d (.bool) false]
def S_impl_ClaimBook_partOk_0 (b : Book) (p : Part) (t29 : Int) (t30 : Int) : St := { fr := [(2, AV.w (V1.one (C.pb 2 0))), (5, AV.w (V1.one (C.pb 5 0))), (28, AV.w (V1.one (C.v tUse.slice p.1.2.2.2.1))), (29, AV.w (V1.one (C.v tInt t29))), (30, AV.w (V1.one (C.v tInt t30)))], H := [(2, Ob.box [C.v tFoe.slice b.1, C.v tSpot.slice b.2.1, C.v tTxts b.2.2.1, C.v tPart.slice b.2.2.2.1, C.v tInt b.2.2.2.2]), (5, Ob.box [C.v tInt p.1.1, C.v tInt p.1.2.1, C.v tTxts p.1.2.2.1, C.v tUse.slice p.1.2.2.2.1, C.v tTxts p.1.2.2.2.2.1, C.v tTxts p.1.2.2.2.2.2])] }
noncomputable def E_impl_ClaimBook_partOk (N : Nat) : Env := envOf (tabOf tabL) (tabS (phiL_impl_ClaimBook_partOk N)) inl0 N fi_impl_ClaimBook_partOk []
noncomputable def K_impl_ClaimBook_partOk := (kFun (tabOf tabL) fi_impl_ClaimBook_partOk.res (kT (ofDs [.bool]) sg_impl_ClaimBook_partOk []))
noncomputable def its_impl_ClaimBook_partOk_0 (N : Nat) (n : Nat) : St → Option Bool := fun S' => iter [] (annAt fi_impl_ClaimBook_partOk 0) (code (E_impl_ClaimBook_partOk N) (lpIn fi_impl_ClaimBook_partOk.body 0 0) 0) n S' (contOf (E_impl_ClaimBook_partOk N) fi_impl_ClaimBook_partOk.body 0 0 K_impl_ClaimBook_partOk)
noncomputable def it_impl_ClaimBook_partOk_0 (N : Nat) (b : Book) (p : Part) (t29 : Int) (n : Nat) : Int → Option Bool := fun t30 => its_impl_ClaimBook_partOk_0 N n (S_impl_ClaimBook_partOk_0 b p t29 t30)
theorem fe_impl_ClaimBook_partOk_0 (N : Nat) : it_impl_ClaimBook_partOk_0 N = impl_ClaimBook_partOk_0 N := funext fun b => funext fun p => funext fun t29 => funext (lp_all (by kernel_rfl) fun n => by
    show _ = impl_ClaimBook_partOk_0r N b p t29 (it_impl_ClaimBook_partOk_0 N b p t29 n)
    kernel_rfl)
theorem run_impl_ClaimBook_partOk (N : Nat) (b : (List ((List UInt8) × (List UInt8))) × ((List ((List UInt8) × ((Int) × ((Int) × ((Int) × (List Txt)))))) × ((List Txt) × ((List (((Int) × ((Int) × ((List Txt) × ((List ((List UInt8) × ((Int) × (Int)))) × ((List Txt) × (List Txt)))))) × (Bool))) × (Int))))) (p : ((Int) × ((Int) × ((List Txt) × ((List ((List UInt8) × ((Int) × (Int)))) × ((List Txt) × (List Txt)))))) × (Bool)) : runST (ofDs [.bool]) (tabOf tabL) (tabS (phiL_impl_ClaimBook_partOk N)) inl0 N fi_impl_ClaimBook_partOk sg_impl_ClaimBook_partOk [⟨tBook, b⟩, ⟨tPart, p⟩] = F.impl_ClaimBook_partOk N b p := by
    show _ = F.impl_ClaimBook_partOkb N (F.impl_ClaimBook_partOk_0 N) b p
    rw [← fe_impl_ClaimBook_partOk_0 N]
    kernel_rfl
def sm_impl_ClaimBook_partOk (N : Nat) : Summ := summOf [.d tBook true, .d tPart true] false [.d (.bool) false] [.bool] (F.impl_ClaimBook_partOk N)
theorem con_impl_ClaimBook_partOk (N : Nat) : Contract Try.prog 59 (sm_impl_ClaimBook_partOk N) := con_of (N := N) tabOK mixed (callOK_list (l := phiL_impl_ClaimBook_partOk N) (allc rfl (con_impl_ClaimWantOk N) (allc rfl (con_impl_ClaimBook_knows N) (allc rfl (con_impl_ClaimBook_at N) (allc rfl (con_impl_within N) trivial))))) (inl0_ok _) ok_impl_ClaimBook_partOk (by decide) fun b p => run_impl_ClaimBook_partOk N b p
def an_impl_share_c1_c1 : Nat → Option Ann := fun _ => none
noncomputable def fi_impl_share_c1_c1 : FI := ⟨Try.f107.results.toList, bodyOf Try.f107.body, Try.f107.ntmps, an_impl_share_c1_c1⟩
theorem ok_impl_share_c1_c1 : FnOK Try.prog 107 fi_impl_share_c1_c1 := ⟨⟨Try.f107, Try.func107, by kernel_rfl, rfl, rfl, by kernel_rfl⟩, by kernel_rfl⟩
def phiL_impl_share_c1_c1 (N : Nat) : List (Nat × Summ) := []
def sg_impl_share_c1_c1 : Summ := sigOf [.d tUse true, .bx tUse] true [.d (.bool) false]
theorem run_impl_share_c1_c1 (N : Nat) (v : (List UInt8) × ((Int) × (Int))) (p1 : (List UInt8) × ((Int) × (Int))) : runST (ofDs [.bool, tUse]) (tabOf tabL) (tabS (phiL_impl_share_c1_c1 N)) inl0 N fi_impl_share_c1_c1 sg_impl_share_c1_c1 [⟨tUse, v⟩, ⟨tUse, p1⟩] = F.impl_share_c1_c1 N v p1 := by kernel_rfl
def sm_impl_share_c1_c1 (N : Nat) : Summ := summOf [.d tUse true, .bx tUse] true [.d (.bool) false] [.bool, tUse] (F.impl_share_c1_c1 N)
theorem con_impl_share_c1_c1 (N : Nat) : Contract Try.prog 107 (sm_impl_share_c1_c1 N) := con_of (N := N) tabOK mixed (callOK_list (l := phiL_impl_share_c1_c1 N) trivial) (inl0_ok _) ok_impl_share_c1_c1 (by decide) fun v p1 => run_impl_share_c1_c1 N v p1
def an_slices_IndexFunc_ClaimUse__impl_share_c1_c1 : Nat → Option Ann
  | 0 => some ⟨{ fr := [(0, Dir.keep), (1, Dir.keep), (7, Dir.keep), (8, Dir.keep)], bx := [(500001, [Dir.keep, Dir.keep, Dir.keep])], os := [] }, [(0, { fr := [], bx := [(500001, [Dir.keep, Dir.keep, Dir.keep])], os := [] })], { fr := [(4, Dir.keep)], bx := [(500001, [Dir.keep, Dir.keep, Dir.keep])], os := [] }⟩
  | _ => none
noncomputable def fi_slices_IndexFunc_ClaimUse__impl_share_c1_c1 : FI := ⟨Try.f130.results.toList, bodyOf Try.f130.body, Try.f130.ntmps, an_slices_IndexFunc_ClaimUse__impl_share_c1_c1⟩
theorem ok_slices_IndexFunc_ClaimUse__impl_share_c1_c1 : FnOK Try.prog 130 fi_slices_IndexFunc_ClaimUse__impl_share_c1_c1 := ⟨⟨Try.f130, Try.func130, by kernel_rfl, rfl, rfl, by kernel_rfl⟩, by kernel_rfl⟩
def phiL_slices_IndexFunc_ClaimUse__impl_share_c1_c1 (N : Nat) : List (Nat × Summ) := [(107, sm_impl_share_c1_c1 N)]
def sg_slices_IndexFunc_ClaimUse__impl_share_c1_c1 : Summ := sigOf [.d (.slice tUse) false, .cl 107 [tUse]] true [.d tInt false]
def S_slices_IndexFunc_ClaimUse__impl_share_c1_c1_0 (s : List Use) (t7 : Int) (t8 : Int) (fpc0 : Txt) (fpc1 : Int) (fpc2 : Int) : St := { fr := [(0, AV.w (V1.one (C.v tUse.slice s))), (1, AV.w (V1.one (C.fn 107 [500001]))), (7, AV.w (V1.one (C.v tInt t7))), (8, AV.w (V1.one (C.v tInt t8)))], H := [(500001, Ob.box [C.v Ty.str fpc0, C.v tInt fpc1, C.v tInt fpc2])] }
noncomputable def E_slices_IndexFunc_ClaimUse__impl_share_c1_c1 (N : Nat) : Env := envOf (tabOf tabL) (tabS (phiL_slices_IndexFunc_ClaimUse__impl_share_c1_c1 N)) inl0 N fi_slices_IndexFunc_ClaimUse__impl_share_c1_c1 [500001]
noncomputable def K_slices_IndexFunc_ClaimUse__impl_share_c1_c1 := (kFun (tabOf tabL) fi_slices_IndexFunc_ClaimUse__impl_share_c1_c1.res (kT (ofDs [tInt, tUse]) sg_slices_IndexFunc_ClaimUse__impl_share_c1_c1 [(500001, .bx tUse)]))
noncomputable def its_slices_IndexFunc_ClaimUse__impl_share_c1_c1_0 (N : Nat) (n : Nat) : St → Option (Int × Use) := fun S' => iter [500001] (annAt fi_slices_IndexFunc_ClaimUse__impl_share_c1_c1 0) (code (E_slices_IndexFunc_ClaimUse__impl_share_c1_c1 N) (lpIn fi_slices_IndexFunc_ClaimUse__impl_share_c1_c1.body 0 0) 0) n S' (contOf (E_slices_IndexFunc_ClaimUse__impl_share_c1_c1 N) fi_slices_IndexFunc_ClaimUse__impl_share_c1_c1.body 0 0 K_slices_IndexFunc_ClaimUse__impl_share_c1_c1)
noncomputable def it_slices_IndexFunc_ClaimUse__impl_share_c1_c1_0 (N : Nat) (s : List Use) (t7 : Int) (n : Nat) : Int → Txt → Int → Int → Option (Int × Use) := fun t8 fpc0 fpc1 fpc2 => its_slices_IndexFunc_ClaimUse__impl_share_c1_c1_0 N n (S_slices_IndexFunc_ClaimUse__impl_share_c1_c1_0 s t7 t8 fpc0 fpc1 fpc2)
theorem fe_slices_IndexFunc_ClaimUse__impl_share_c1_c1_0 (N : Nat) : it_slices_IndexFunc_ClaimUse__impl_share_c1_c1_0 N = slices_IndexFunc_ClaimUse__impl_share_c1_c1_0 N := funext fun s => funext fun t7 => funext (lp_all (by kernel_rfl) fun n => by
    show _ = slices_IndexFunc_ClaimUse__impl_share_c1_c1_0r N s t7 (it_slices_IndexFunc_ClaimUse__impl_share_c1_c1_0 N s t7 n)
    kernel_rfl)
theorem run_slices_IndexFunc_ClaimUse__impl_share_c1_c1 (N : Nat) (s : List ((List UInt8) × ((Int) × (Int)))) (p1 : (List UInt8) × ((Int) × (Int))) : runST (ofDs [tInt, tUse]) (tabOf tabL) (tabS (phiL_slices_IndexFunc_ClaimUse__impl_share_c1_c1 N)) inl0 N fi_slices_IndexFunc_ClaimUse__impl_share_c1_c1 sg_slices_IndexFunc_ClaimUse__impl_share_c1_c1 [⟨.slice tUse, s⟩, ⟨tUse, p1⟩] = F.slices_IndexFunc_ClaimUse__impl_share_c1_c1 N s p1 := by
    show _ = F.slices_IndexFunc_ClaimUse__impl_share_c1_c1b N (F.slices_IndexFunc_ClaimUse__impl_share_c1_c1_0 N) s p1
    rw [← fe_slices_IndexFunc_ClaimUse__impl_share_c1_c1_0 N]
    kernel_rfl
def sm_slices_IndexFunc_ClaimUse__impl_share_c1_c1 (N : Nat) : Summ := summOf [.d (.slice tUse) false, .cl 107 [tUse]] true [.d tInt false] [tInt, tUse] (F.slices_IndexFunc_ClaimUse__impl_share_c1_c1 N)
theorem con_slices_IndexFunc_ClaimUse__impl_share_c1_c1 (N : Nat) : Contract Try.prog 130 (sm_slices_IndexFunc_ClaimUse__impl_share_c1_c1 N) := con_of (N := N) tabOK mixed (callOK_list (l := phiL_slices_IndexFunc_ClaimUse__impl_share_c1_c1 N) (allc rfl (con_impl_share_c1_c1 N) trivial)) (inl0_ok _) ok_slices_IndexFunc_ClaimUse__impl_share_c1_c1 (by decide) fun s p1 => run_slices_IndexFunc_ClaimUse__impl_share_c1_c1 N s p1
def an_slices_ContainsFunc_ClaimUse__impl_share_c1_c1 : Nat → Option Ann := fun _ => none
noncomputable def fi_slices_ContainsFunc_ClaimUse__impl_share_c1_c1 : FI := ⟨Try.f105.results.toList, bodyOf Try.f105.body, Try.f105.ntmps, an_slices_ContainsFunc_ClaimUse__impl_share_c1_c1⟩
theorem ok_slices_ContainsFunc_ClaimUse__impl_share_c1_c1 : FnOK Try.prog 105 fi_slices_ContainsFunc_ClaimUse__impl_share_c1_c1 := ⟨⟨Try.f105, Try.func105, by kernel_rfl, rfl, rfl, by kernel_rfl⟩, by kernel_rfl⟩
def phiL_slices_ContainsFunc_ClaimUse__impl_share_c1_c1 (N : Nat) : List (Nat × Summ) := [(10800130, sm_slices_IndexFunc_ClaimUse__impl_share_c1_c1 N)]
def sg_slices_ContainsFunc_ClaimUse__impl_share_c1_c1 : Summ := sigOf [.d (.slice tUse) false, .cl 107 [tUse]] true [.d (.bool) false]
theorem run_slices_ContainsFunc_ClaimUse__impl_share_c1_c1 (N : Nat) (s : List ((List UInt8) × ((Int) × (Int)))) (p1 : (List UInt8) × ((Int) × (Int))) : runST (ofDs [.bool, tUse]) (tabOf tabL) (tabS (phiL_slices_ContainsFunc_ClaimUse__impl_share_c1_c1 N)) inl0 N fi_slices_ContainsFunc_ClaimUse__impl_share_c1_c1 sg_slices_ContainsFunc_ClaimUse__impl_share_c1_c1 [⟨.slice tUse, s⟩, ⟨tUse, p1⟩] = F.slices_ContainsFunc_ClaimUse__impl_share_c1_c1 N s p1 := by kernel_rfl
def sm_slices_ContainsFunc_ClaimUse__impl_share_c1_c1 (N : Nat) : Summ := summOf [.d (.slice tUse) false, .cl 107 [tUse]] true [.d (.bool) false] [.bool, tUse] (F.slices_ContainsFunc_ClaimUse__impl_share_c1_c1 N)
theorem con_slices_ContainsFunc_ClaimUse__impl_share_c1_c1 (N : Nat) : Contract Try.prog 105 (sm_slices_ContainsFunc_ClaimUse__impl_share_c1_c1 N) := con_of (N := N) tabOK mixed (callOK_list (l := phiL_slices_ContainsFunc_ClaimUse__impl_share_c1_c1 N) (allc rfl (con_slices_IndexFunc_ClaimUse__impl_share_c1_c1 N) trivial)) (inl0_ok _) ok_slices_ContainsFunc_ClaimUse__impl_share_c1_c1 (by decide) fun s p1 => run_slices_ContainsFunc_ClaimUse__impl_share_c1_c1 N s p1
def an_impl_share_c1 : Nat → Option Ann := fun _ => none
noncomputable def fi_impl_share_c1 : FI := ⟨Try.f106.results.toList, bodyOf Try.f106.body, Try.f106.ntmps, an_impl_share_c1⟩
theorem ok_impl_share_c1 : FnOK Try.prog 106 fi_impl_share_c1 := ⟨⟨Try.f106, Try.func106, by kernel_rfl, rfl, rfl, by kernel_rfl⟩, by kernel_rfl⟩
def phiL_impl_share_c1 (N : Nat) : List (Nat × Summ) := [(10800105, sm_slices_ContainsFunc_ClaimUse__impl_share_c1_c1 N)]
def sg_impl_share_c1 : Summ := sigOf [.d tUse true, .bx tWant] true [.d (.bool) false]
theorem run_impl_share_c1 (N : Nat) (u : (List UInt8) × ((Int) × (Int))) (p1 : (Int) × ((Int) × ((List Txt) × ((List ((List UInt8) × ((Int) × (Int)))) × ((List Txt) × (List Txt)))))) : runST (ofDs [.bool, tWant]) (tabOf tabL) (tabS (phiL_impl_share_c1 N)) inl0 N fi_impl_share_c1 sg_impl_share_c1 [⟨tUse, u⟩, ⟨tWant, p1⟩] = F.impl_share_c1 N u p1 := by kernel_rfl
def sm_impl_share_c1 (N : Nat) : Summ := summOf [.d tUse true, .bx tWant] true [.d (.bool) false] [.bool, tWant] (F.impl_share_c1 N)
theorem con_impl_share_c1 (N : Nat) : Contract Try.prog 106 (sm_impl_share_c1 N) := con_of (N := N) tabOK mixed (callOK_list (l := phiL_impl_share_c1 N) (allc rfl (con_slices_ContainsFunc_ClaimUse__impl_share_c1_c1 N) trivial)) (inl0_ok _) ok_impl_share_c1 (by decide) fun u p1 => run_impl_share_c1 N u p1
def an_slices_IndexFunc_ClaimUse__impl_share_c1 : Nat → Option Ann
  | 0 => some ⟨{ fr := [(0, Dir.keep), (1, Dir.keep), (7, Dir.keep), (8, Dir.keep)], bx := [(500001, [Dir.keep, Dir.keep, Dir.keep, Dir.keep, Dir.keep, Dir.keep])], os := [] }, [(0, { fr := [], bx := [(500001, [Dir.keep, Dir.keep, Dir.keep, Dir.keep, Dir.keep, Dir.keep])], os := [] })], { fr := [(4, Dir.keep)], bx := [(500001, [Dir.keep, Dir.keep, Dir.keep, Dir.keep, Dir.keep, Dir.keep])], os := [] }⟩
  | _ => none
noncomputable def fi_slices_IndexFunc_ClaimUse__impl_share_c1 : FI := ⟨Try.f130.results.toList, bodyOf Try.f130.body, Try.f130.ntmps, an_slices_IndexFunc_ClaimUse__impl_share_c1⟩
theorem ok_slices_IndexFunc_ClaimUse__impl_share_c1 : FnOK Try.prog 130 fi_slices_IndexFunc_ClaimUse__impl_share_c1 := ⟨⟨Try.f130, Try.func130, by kernel_rfl, rfl, rfl, by kernel_rfl⟩, by kernel_rfl⟩
def phiL_slices_IndexFunc_ClaimUse__impl_share_c1 (N : Nat) : List (Nat × Summ) := [(106, sm_impl_share_c1 N)]
def sg_slices_IndexFunc_ClaimUse__impl_share_c1 : Summ := sigOf [.d (.slice tUse) false, .cl 106 [tWant]] true [.d tInt false]
def S_slices_IndexFunc_ClaimUse__impl_share_c1_0 (s : List Use) (t7 : Int) (t8 : Int) (fpc0 : Int) (fpc1 : Int) (fpc2 : List Txt) (fpc3 : List Use) (fpc4 : List Txt) (fpc5 : List Txt) : St := { fr := [(0, AV.w (V1.one (C.v tUse.slice s))), (1, AV.w (V1.one (C.fn 106 [500001]))), (7, AV.w (V1.one (C.v tInt t7))), (8, AV.w (V1.one (C.v tInt t8)))], H := [(500001, Ob.box [C.v tInt fpc0, C.v tInt fpc1, C.v tTxts fpc2, C.v tUse.slice fpc3, C.v tTxts fpc4, C.v tTxts fpc5])] }
noncomputable def E_slices_IndexFunc_ClaimUse__impl_share_c1 (N : Nat) : Env := envOf (tabOf tabL) (tabS (phiL_slices_IndexFunc_ClaimUse__impl_share_c1 N)) inl0 N fi_slices_IndexFunc_ClaimUse__impl_share_c1 [500001]
noncomputable def K_slices_IndexFunc_ClaimUse__impl_share_c1 := (kFun (tabOf tabL) fi_slices_IndexFunc_ClaimUse__impl_share_c1.res (kT (ofDs [tInt, tWant]) sg_slices_IndexFunc_ClaimUse__impl_share_c1 [(500001, .bx tWant)]))
noncomputable def its_slices_IndexFunc_ClaimUse__impl_share_c1_0 (N : Nat) (n : Nat) : St → Option (Int × Want) := fun S' => iter [500001] (annAt fi_slices_IndexFunc_ClaimUse__impl_share_c1 0) (code (E_slices_IndexFunc_ClaimUse__impl_share_c1 N) (lpIn fi_slices_IndexFunc_ClaimUse__impl_share_c1.body 0 0) 0) n S' (contOf (E_slices_IndexFunc_ClaimUse__impl_share_c1 N) fi_slices_IndexFunc_ClaimUse__impl_share_c1.body 0 0 K_slices_IndexFunc_ClaimUse__impl_share_c1)
noncomputable def it_slices_IndexFunc_ClaimUse__impl_share_c1_0 (N : Nat) (s : List Use) (t7 : Int) (n : Nat) : Int → Int → Int → (List Txt) → (List Use) → (List Txt) → (List Txt) → Option (Int × Want) := fun t8 fpc0 fpc1 fpc2 fpc3 fpc4 fpc5 => its_slices_IndexFunc_ClaimUse__impl_share_c1_0 N n (S_slices_IndexFunc_ClaimUse__impl_share_c1_0 s t7 t8 fpc0 fpc1 fpc2 fpc3 fpc4 fpc5)
theorem fe_slices_IndexFunc_ClaimUse__impl_share_c1_0 (N : Nat) : it_slices_IndexFunc_ClaimUse__impl_share_c1_0 N = slices_IndexFunc_ClaimUse__impl_share_c1_0 N := funext fun s => funext fun t7 => funext (lp_all (by kernel_rfl) fun n => by
    show _ = slices_IndexFunc_ClaimUse__impl_share_c1_0r N s t7 (it_slices_IndexFunc_ClaimUse__impl_share_c1_0 N s t7 n)
    kernel_rfl)
theorem run_slices_IndexFunc_ClaimUse__impl_share_c1 (N : Nat) (s : List ((List UInt8) × ((Int) × (Int)))) (p1 : (Int) × ((Int) × ((List Txt) × ((List ((List UInt8) × ((Int) × (Int)))) × ((List Txt) × (List Txt)))))) : runST (ofDs [tInt, tWant]) (tabOf tabL) (tabS (phiL_slices_IndexFunc_ClaimUse__impl_share_c1 N)) inl0 N fi_slices_IndexFunc_ClaimUse__impl_share_c1 sg_slices_IndexFunc_ClaimUse__impl_share_c1 [⟨.slice tUse, s⟩, ⟨tWant, p1⟩] = F.slices_IndexFunc_ClaimUse__impl_share_c1 N s p1 := by
    show _ = F.slices_IndexFunc_ClaimUse__impl_share_c1b N (F.slices_IndexFunc_ClaimUse__impl_share_c1_0 N) s p1
    rw [← fe_slices_IndexFunc_ClaimUse__impl_share_c1_0 N]
    kernel_rfl
def sm_slices_IndexFunc_ClaimUse__impl_share_c1 (N : Nat) : Summ := summOf [.d (.slice tUse) false, .cl 106 [tWant]] true [.d tInt false] [tInt, tWant] (F.slices_IndexFunc_ClaimUse__impl_share_c1 N)
theorem con_slices_IndexFunc_ClaimUse__impl_share_c1 (N : Nat) : Contract Try.prog 130 (sm_slices_IndexFunc_ClaimUse__impl_share_c1 N) := con_of (N := N) tabOK mixed (callOK_list (l := phiL_slices_IndexFunc_ClaimUse__impl_share_c1 N) (allc rfl (con_impl_share_c1 N) trivial)) (inl0_ok _) ok_slices_IndexFunc_ClaimUse__impl_share_c1 (by decide) fun s p1 => run_slices_IndexFunc_ClaimUse__impl_share_c1 N s p1
def an_slices_ContainsFunc_ClaimUse__impl_share_c1 : Nat → Option Ann := fun _ => none
noncomputable def fi_slices_ContainsFunc_ClaimUse__impl_share_c1 : FI := ⟨Try.f105.results.toList, bodyOf Try.f105.body, Try.f105.ntmps, an_slices_ContainsFunc_ClaimUse__impl_share_c1⟩
theorem ok_slices_ContainsFunc_ClaimUse__impl_share_c1 : FnOK Try.prog 105 fi_slices_ContainsFunc_ClaimUse__impl_share_c1 := ⟨⟨Try.f105, Try.func105, by kernel_rfl, rfl, rfl, by kernel_rfl⟩, by kernel_rfl⟩
def phiL_slices_ContainsFunc_ClaimUse__impl_share_c1 (N : Nat) : List (Nat × Summ) := [(10700130, sm_slices_IndexFunc_ClaimUse__impl_share_c1 N)]
def sg_slices_ContainsFunc_ClaimUse__impl_share_c1 : Summ := sigOf [.d (.slice tUse) false, .cl 106 [tWant]] true [.d (.bool) false]
theorem run_slices_ContainsFunc_ClaimUse__impl_share_c1 (N : Nat) (s : List ((List UInt8) × ((Int) × (Int)))) (p1 : (Int) × ((Int) × ((List Txt) × ((List ((List UInt8) × ((Int) × (Int)))) × ((List Txt) × (List Txt)))))) : runST (ofDs [.bool, tWant]) (tabOf tabL) (tabS (phiL_slices_ContainsFunc_ClaimUse__impl_share_c1 N)) inl0 N fi_slices_ContainsFunc_ClaimUse__impl_share_c1 sg_slices_ContainsFunc_ClaimUse__impl_share_c1 [⟨.slice tUse, s⟩, ⟨tWant, p1⟩] = F.slices_ContainsFunc_ClaimUse__impl_share_c1 N s p1 := by kernel_rfl
def sm_slices_ContainsFunc_ClaimUse__impl_share_c1 (N : Nat) : Summ := summOf [.d (.slice tUse) false, .cl 106 [tWant]] true [.d (.bool) false] [.bool, tWant] (F.slices_ContainsFunc_ClaimUse__impl_share_c1 N)
theorem con_slices_ContainsFunc_ClaimUse__impl_share_c1 (N : Nat) : Contract Try.prog 105 (sm_slices_ContainsFunc_ClaimUse__impl_share_c1 N) := con_of (N := N) tabOK mixed (callOK_list (l := phiL_slices_ContainsFunc_ClaimUse__impl_share_c1 N) (allc rfl (con_slices_IndexFunc_ClaimUse__impl_share_c1 N) trivial)) (inl0_ok _) ok_slices_ContainsFunc_ClaimUse__impl_share_c1 (by decide) fun s p1 => run_slices_ContainsFunc_ClaimUse__impl_share_c1 N s p1
def an_impl_share : Nat → Option Ann := fun _ => none
noncomputable def fi_impl_share : FI := ⟨Try.f60.results.toList, bodyOf Try.f60.body, Try.f60.ntmps, an_impl_share⟩
theorem ok_impl_share : FnOK Try.prog 60 fi_impl_share := ⟨⟨Try.f60, Try.func60, by kernel_rfl, rfl, rfl, by kernel_rfl⟩, by kernel_rfl⟩
def phiL_impl_share (N : Nat) : List (Nat × Summ) := [(10700105, sm_slices_ContainsFunc_ClaimUse__impl_share_c1 N)]
def sg_impl_share : Summ := sigOf [.d tWant true, .d tWant true] false [.d (.bool) false]
theorem run_impl_share (N : Nat) (a : (Int) × ((Int) × ((List Txt) × ((List ((List UInt8) × ((Int) × (Int)))) × ((List Txt) × (List Txt)))))) (b : (Int) × ((Int) × ((List Txt) × ((List ((List UInt8) × ((Int) × (Int)))) × ((List Txt) × (List Txt)))))) : runST (ofDs [.bool]) (tabOf tabL) (tabS (phiL_impl_share N)) inl0 N fi_impl_share sg_impl_share [⟨tWant, a⟩, ⟨tWant, b⟩] = F.impl_share N a b := by kernel_rfl
def sm_impl_share (N : Nat) : Summ := summOf [.d tWant true, .d tWant true] false [.d (.bool) false] [.bool] (F.impl_share N)
theorem con_impl_share (N : Nat) : Contract Try.prog 60 (sm_impl_share N) := con_of (N := N) tabOK mixed (callOK_list (l := phiL_impl_share N) (allc rfl (con_slices_ContainsFunc_ClaimUse__impl_share_c1 N) trivial)) (inl0_ok _) ok_impl_share (by decide) fun a b => run_impl_share N a b
def an_impl_cross : Nat → Option Ann := fun _ => none
noncomputable def fi_impl_cross : FI := ⟨Try.f61.results.toList, bodyOf Try.f61.body, Try.f61.ntmps, an_impl_cross⟩
theorem ok_impl_cross : FnOK Try.prog 61 fi_impl_cross := ⟨⟨Try.f61, Try.func61, by kernel_rfl, rfl, rfl, by kernel_rfl⟩, by kernel_rfl⟩
def phiL_impl_cross (N : Nat) : List (Nat × Summ) := [(45, sm_impl_common N)]
def sg_impl_cross : Summ := sigOf [.d tWant true, .d tWant true] false [.d (.bool) false]
theorem run_impl_cross (N : Nat) (a : (Int) × ((Int) × ((List Txt) × ((List ((List UInt8) × ((Int) × (Int)))) × ((List Txt) × (List Txt)))))) (b : (Int) × ((Int) × ((List Txt) × ((List ((List UInt8) × ((Int) × (Int)))) × ((List Txt) × (List Txt)))))) : runST (ofDs [.bool]) (tabOf tabL) (tabS (phiL_impl_cross N)) inl0 N fi_impl_cross sg_impl_cross [⟨tWant, a⟩, ⟨tWant, b⟩] = F.impl_cross N a b := by kernel_rfl
def sm_impl_cross (N : Nat) : Summ := summOf [.d tWant true, .d tWant true] false [.d (.bool) false] [.bool] (F.impl_cross N)
theorem con_impl_cross (N : Nat) : Contract Try.prog 61 (sm_impl_cross N) := con_of (N := N) tabOK mixed (callOK_list (l := phiL_impl_cross N) (allc rfl (con_impl_common N) trivial)) (inl0_ok _) ok_impl_cross (by decide) fun a b => run_impl_cross N a b
def an_impl_ClaimBookOk : Nat → Option Ann
  | 0 => some ⟨{ fr := [(1, Dir.keep), (40, Dir.keep), (41, Dir.keep), (42, Dir.keep)], bx := [(1, [Dir.keep, Dir.keep, Dir.keep, Dir.keep, Dir.keep])], os := [] }, [(0, { fr := [(1, Dir.keep)], bx := [(1, [Dir.keep, Dir.keep, Dir.keep, Dir.keep, Dir.keep])], os := [] })], { fr := [(2, Dir.keep)], bx := [], os := [] }⟩
  | 2 => some ⟨{ fr := [(1, Dir.keep), (81, Dir.keep), (82, Dir.keep), (83, Dir.keep)], bx := [(1, [Dir.keep, Dir.keep, Dir.keep, Dir.keep, Dir.keep])], os := [] }, [(2, { fr := [(1, Dir.keep)], bx := [(1, [Dir.keep, Dir.keep, Dir.keep, Dir.keep, Dir.keep])], os := [] })], { fr := [(2, Dir.keep)], bx := [], os := [] }⟩
  | 4 => some ⟨{ fr := [(1, Dir.keep), (149, Dir.keep), (150, Dir.keep), (151, Dir.keep)], bx := [(1, [Dir.keep, Dir.keep, Dir.keep, Dir.keep, Dir.keep])], os := [] }, [(4, { fr := [], bx := [], os := [] })], { fr := [(2, Dir.keep)], bx := [], os := [] }⟩
  | 6 => some ⟨{ fr := [(1, Dir.keep), (8, Dir.keep), (149, Dir.keep), (150, Dir.keep), (151, Dir.keep), (181, Dir.keep), (182, Dir.keep), (183, Dir.keep)], bx := [(1, [Dir.keep, Dir.keep, Dir.keep, Dir.keep, Dir.keep]), (8, [Dir.keep, Dir.keep, Dir.keep, Dir.keep, Dir.keep, Dir.keep, Dir.keep])], os := [] }, [(6, { fr := [(1, Dir.keep), (149, Dir.keep), (150, Dir.keep), (151, Dir.keep)], bx := [(1, [Dir.keep, Dir.keep, Dir.keep, Dir.keep, Dir.keep])], os := [] })], { fr := [(2, Dir.keep)], bx := [], os := [] }⟩
  | _ => none
noncomputable def fi_impl_ClaimBookOk : FI := ⟨Try.f17.results.toList, bodyOf Try.f17.body, Try.f17.ntmps, an_impl_ClaimBookOk⟩
theorem ok_impl_ClaimBookOk : FnOK Try.prog 17 fi_impl_ClaimBookOk := ⟨⟨Try.f17, Try.func17, by kernel_rfl, rfl, rfl, by kernel_rfl⟩, by kernel_rfl⟩
def phiL_impl_ClaimBookOk (N : Nat) : List (Nat × Summ) := [(43, sm_impl_names N), (42, sm_impl_in N), (44, sm_impl_name N), (57, sm_impl_ClaimFoe_ahead N), (58, sm_impl_ClaimBook_foes N), (59, sm_impl_ClaimBook_partOk N), (60, sm_impl_share N), (61, sm_impl_cross N)]
def sg_impl_ClaimBookOk : Summ := sigOf [.d tBook true] false [.d (.bool) false]
def S_impl_ClaimBookOk_6 (b : Book) (t150 : Int) (t151 : Int) (t181 : List Part) (t182 : Int) (p8c0 : Int) (p8c1 : Int) (p8c2 : List Txt) (p8c3 : List Use) (p8c4 : List Txt) (p8c5 : List Txt) (p8c6 : Bool) (t183 : Int) : St := { fr := [(1, AV.w (V1.one (C.pb 1 0))), (8, AV.w (V1.one (C.pb 8 0))), (149, AV.w (V1.one (C.v tPart.slice b.2.2.2.1))), (150, AV.w (V1.one (C.v tInt t150))), (151, AV.w (V1.one (C.v tInt t151))), (181, AV.w (V1.one (C.v tPart.slice t181))), (182, AV.w (V1.one (C.v tInt t182))), (183, AV.w (V1.one (C.v tInt t183)))], H := [(1, Ob.box [C.v tFoe.slice b.1, C.v tSpot.slice b.2.1, C.v tTxts b.2.2.1, C.v tPart.slice b.2.2.2.1, C.v tInt b.2.2.2.2]), (8, Ob.box [C.v tInt p8c0, C.v tInt p8c1, C.v tTxts p8c2, C.v tUse.slice p8c3, C.v tTxts p8c4, C.v tTxts p8c5, C.v Ty.bool p8c6])] }
def S_impl_ClaimBookOk_4 (b : Book) (t150 : Int) (t151 : Int) : St := { fr := [(1, AV.w (V1.one (C.pb 1 0))), (149, AV.w (V1.one (C.v tPart.slice b.2.2.2.1))), (150, AV.w (V1.one (C.v tInt t150))), (151, AV.w (V1.one (C.v tInt t151)))], H := [(1, Ob.box [C.v tFoe.slice b.1, C.v tSpot.slice b.2.1, C.v tTxts b.2.2.1, C.v tPart.slice b.2.2.2.1, C.v tInt b.2.2.2.2])] }
def S_impl_ClaimBookOk_2 (b : Book) (t82 : Int) (t83 : Int) : St := { fr := [(1, AV.w (V1.one (C.pb 1 0))), (81, AV.w (V1.one (C.v tSpot.slice b.2.1))), (82, AV.w (V1.one (C.v tInt t82))), (83, AV.w (V1.one (C.v tInt t83)))], H := [(1, Ob.box [C.v tFoe.slice b.1, C.v tSpot.slice b.2.1, C.v tTxts b.2.2.1, C.v tPart.slice b.2.2.2.1, C.v tInt b.2.2.2.2])] }
def S_impl_ClaimBookOk_0 (b : Book) (t41 : Int) (t42 : Int) : St := { fr := [(1, AV.w (V1.one (C.pb 1 0))), (40, AV.w (V1.one (C.v tFoe.slice b.1))), (41, AV.w (V1.one (C.v tInt t41))), (42, AV.w (V1.one (C.v tInt t42)))], H := [(1, Ob.box [C.v tFoe.slice b.1, C.v tSpot.slice b.2.1, C.v tTxts b.2.2.1, C.v tPart.slice b.2.2.2.1, C.v tInt b.2.2.2.2])] }
noncomputable def E_impl_ClaimBookOk (N : Nat) : Env := envOf (tabOf tabL) (tabS (phiL_impl_ClaimBookOk N)) inl0 N fi_impl_ClaimBookOk []
noncomputable def K_impl_ClaimBookOk := (kFun (tabOf tabL) fi_impl_ClaimBookOk.res (kT (ofDs [.bool]) sg_impl_ClaimBookOk []))
noncomputable def its_impl_ClaimBookOk_6 (N : Nat) (nxS4 : St → Option Bool) (n : Nat) : St → Option Bool := fun S' => iter [] (annAt fi_impl_ClaimBookOk 6) (code (E_impl_ClaimBookOk N) (lpIn (lpIn fi_impl_ClaimBookOk.body 0 4) 4 6) 6) n S' (contOf (E_impl_ClaimBookOk N) (lpIn fi_impl_ClaimBookOk.body 0 4) 4 6 (kLoop [] (annAt fi_impl_ClaimBookOk 4) nxS4 (contOf (E_impl_ClaimBookOk N) fi_impl_ClaimBookOk.body 0 4 K_impl_ClaimBookOk)))
noncomputable def it_impl_ClaimBookOk_6 (N : Nat) (nxS4 : St → Option Bool) (b : Book) (t150 : Int) (t151 : Int) (t181 : List Part) (t182 : Int) (p8c0 : Int) (p8c1 : Int) (p8c2 : List Txt) (p8c3 : List Use) (p8c4 : List Txt) (p8c5 : List Txt) (p8c6 : Bool) (n : Nat) : Int → Option Bool := fun t183 => its_impl_ClaimBookOk_6 N nxS4 n (S_impl_ClaimBookOk_6 b t150 t151 t181 t182 p8c0 p8c1 p8c2 p8c3 p8c4 p8c5 p8c6 t183)
theorem fe_impl_ClaimBookOk_6 (N : Nat) (nxS4 : St → Option Bool) (b : Book) (t150 : Int) : it_impl_ClaimBookOk_6 N nxS4 b t150 = impl_ClaimBookOk_6 N (fun t151 => nxS4 (S_impl_ClaimBookOk_4 b t150 t151)) b t150 := funext fun t151 => funext fun t181 => funext fun t182 => funext fun p8c0 => funext fun p8c1 => funext fun p8c2 => funext fun p8c3 => funext fun p8c4 => funext fun p8c5 => funext fun p8c6 => funext (lp_all (by kernel_rfl) fun n => by
    show _ = impl_ClaimBookOk_6r N (fun t151 => nxS4 (S_impl_ClaimBookOk_4 b t150 t151)) b t150 t151 t181 t182 p8c0 p8c1 p8c2 p8c3 p8c4 p8c5 p8c6 (it_impl_ClaimBookOk_6 N nxS4 b t150 t151 t181 t182 p8c0 p8c1 p8c2 p8c3 p8c4 p8c5 p8c6 n)
    kernel_rfl)
noncomputable def its_impl_ClaimBookOk_4 (N : Nat) (n : Nat) : St → Option Bool := fun S' => iter [] (annAt fi_impl_ClaimBookOk 4) (code (E_impl_ClaimBookOk N) (lpIn fi_impl_ClaimBookOk.body 0 4) 4) n S' (contOf (E_impl_ClaimBookOk N) fi_impl_ClaimBookOk.body 0 4 K_impl_ClaimBookOk)
noncomputable def it_impl_ClaimBookOk_4 (N : Nat) (b : Book) (t150 : Int) (n : Nat) : Int → Option Bool := fun t151 => its_impl_ClaimBookOk_4 N n (S_impl_ClaimBookOk_4 b t150 t151)
theorem fe_impl_ClaimBookOk_4 (N : Nat) : it_impl_ClaimBookOk_4 N = impl_ClaimBookOk_4 N := funext fun b => funext fun t150 => funext (lp_all (by kernel_rfl) fun n => by
    show _ = impl_ClaimBookOk_4r N (impl_ClaimBookOk_6 N (it_impl_ClaimBookOk_4 N b t150 n) b t150) b t150 (it_impl_ClaimBookOk_4 N b t150 n)
    rw [show impl_ClaimBookOk_6 N (it_impl_ClaimBookOk_4 N b t150 n) b t150 = it_impl_ClaimBookOk_6 N (its_impl_ClaimBookOk_4 N n) b t150 from (fe_impl_ClaimBookOk_6 N (its_impl_ClaimBookOk_4 N n) b t150).symm]
    kernel_rfl)
noncomputable def its_impl_ClaimBookOk_2 (N : Nat) (n : Nat) : St → Option Bool := fun S' => iter [] (annAt fi_impl_ClaimBookOk 2) (code (E_impl_ClaimBookOk N) (lpIn fi_impl_ClaimBookOk.body 0 2) 2) n S' (contOf (E_impl_ClaimBookOk N) fi_impl_ClaimBookOk.body 0 2 K_impl_ClaimBookOk)
noncomputable def it_impl_ClaimBookOk_2 (N : Nat) (b : Book) (t82 : Int) (n : Nat) : Int → Option Bool := fun t83 => its_impl_ClaimBookOk_2 N n (S_impl_ClaimBookOk_2 b t82 t83)
theorem fe_impl_ClaimBookOk_2 (N : Nat) : it_impl_ClaimBookOk_2 N = impl_ClaimBookOk_2 N := funext fun b => funext fun t82 => funext (lp_all (by kernel_rfl) fun n => by
    show _ = impl_ClaimBookOk_2r N (impl_ClaimBookOk_4 N) b t82 (it_impl_ClaimBookOk_2 N b t82 n)
    rw [show impl_ClaimBookOk_4 N = it_impl_ClaimBookOk_4 N from (fe_impl_ClaimBookOk_4 N).symm]
    kernel_rfl)
noncomputable def its_impl_ClaimBookOk_0 (N : Nat) (n : Nat) : St → Option Bool := fun S' => iter [] (annAt fi_impl_ClaimBookOk 0) (code (E_impl_ClaimBookOk N) (lpIn fi_impl_ClaimBookOk.body 0 0) 0) n S' (contOf (E_impl_ClaimBookOk N) fi_impl_ClaimBookOk.body 0 0 K_impl_ClaimBookOk)
noncomputable def it_impl_ClaimBookOk_0 (N : Nat) (b : Book) (t41 : Int) (n : Nat) : Int → Option Bool := fun t42 => its_impl_ClaimBookOk_0 N n (S_impl_ClaimBookOk_0 b t41 t42)
theorem fe_impl_ClaimBookOk_0 (N : Nat) : it_impl_ClaimBookOk_0 N = impl_ClaimBookOk_0 N := funext fun b => funext fun t41 => funext (lp_all (by kernel_rfl) fun n => by
    show _ = impl_ClaimBookOk_0r N (impl_ClaimBookOk_2 N) b t41 (it_impl_ClaimBookOk_0 N b t41 n)
    rw [show impl_ClaimBookOk_2 N = it_impl_ClaimBookOk_2 N from (fe_impl_ClaimBookOk_2 N).symm]
    kernel_rfl)
theorem run_impl_ClaimBookOk (N : Nat) (b : (List ((List UInt8) × (List UInt8))) × ((List ((List UInt8) × ((Int) × ((Int) × ((Int) × (List Txt)))))) × ((List Txt) × ((List (((Int) × ((Int) × ((List Txt) × ((List ((List UInt8) × ((Int) × (Int)))) × ((List Txt) × (List Txt)))))) × (Bool))) × (Int))))) : runST (ofDs [.bool]) (tabOf tabL) (tabS (phiL_impl_ClaimBookOk N)) inl0 N fi_impl_ClaimBookOk sg_impl_ClaimBookOk [⟨tBook, b⟩] = F.impl_ClaimBookOk N b := by
    show _ = F.impl_ClaimBookOkb N (F.impl_ClaimBookOk_0 N) b
    rw [← fe_impl_ClaimBookOk_0 N]
    kernel_rfl
def sm_impl_ClaimBookOk (N : Nat) : Summ := summOf [.d tBook true] false [.d (.bool) false] [.bool] (F.impl_ClaimBookOk N)
theorem con_impl_ClaimBookOk (N : Nat) : Contract Try.prog 17 (sm_impl_ClaimBookOk N) := con_of (N := N) tabOK mixed (callOK_list (l := phiL_impl_ClaimBookOk N) (allc rfl (con_impl_names N) (allc rfl (con_impl_in N) (allc rfl (con_impl_name N) (allc rfl (con_impl_ClaimFoe_ahead N) (allc rfl (con_impl_ClaimBook_foes N) (allc rfl (con_impl_ClaimBook_partOk N) (allc rfl (con_impl_share N) (allc rfl (con_impl_cross N) trivial))))))))) (inl0_ok _) ok_impl_ClaimBookOk (by decide) fun b => run_impl_ClaimBookOk N b
def an_impl_ClaimShut : Nat → Option Ann
  | 0 => some ⟨{ fr := [(1, Dir.keep), (5, Dir.own 700005 3 tInt), (13, Dir.keep), (14, Dir.keep), (15, Dir.keep)], bx := [], os := [] }, [(0, { fr := [(5, Dir.own 700005 3 tInt)], bx := [], os := [] })], ⟨[], [], []⟩⟩
  | _ => none
noncomputable def fi_impl_ClaimShut : FI := ⟨Try.f22.results.toList, bodyOf Try.f22.body, Try.f22.ntmps, an_impl_ClaimShut⟩
theorem ok_impl_ClaimShut : FnOK Try.prog 22 fi_impl_ClaimShut := ⟨⟨Try.f22, Try.func22, by kernel_rfl, rfl, rfl, by kernel_rfl⟩, by kernel_rfl⟩
def phiL_impl_ClaimShut (N : Nat) : List (Nat × Summ) := [(17, sm_impl_ClaimBookOk N), (66, sm_slices_Contains_string N)]
def sg_impl_ClaimShut : Summ := sigOf [.d tBook true, .d (.str) false] false [.own (.slice tInt) false [(3, none)]]
def S_impl_ClaimShut_0 (b : Book) (valve : Txt) (t14 : Int) (t15 : Int) (out5a : List Int) : St := { fr := [(1, AV.w (V1.one (C.v Ty.str valve))), (5, AV.w (V1.one (C.arr 700005))), (13, AV.w (V1.one (C.v tPart.slice b.2.2.2.1))), (14, AV.w (V1.one (C.v tInt t14))), (15, AV.w (V1.one (C.v tInt t15)))], H := [(700005, Ob.arr 3 tInt out5a)] }
noncomputable def E_impl_ClaimShut (N : Nat) : Env := envOf (tabOf tabL) (tabS (phiL_impl_ClaimShut N)) inl0 N fi_impl_ClaimShut []
noncomputable def K_impl_ClaimShut := (kFun (tabOf tabL) fi_impl_ClaimShut.res (kT (ofDs [.slice tInt]) sg_impl_ClaimShut []))
noncomputable def its_impl_ClaimShut_0 (N : Nat) (n : Nat) : St → Option (List Int) := fun S' => iter [] (annAt fi_impl_ClaimShut 0) (code (E_impl_ClaimShut N) (lpIn fi_impl_ClaimShut.body 0 0) 0) n S' (contOf (E_impl_ClaimShut N) fi_impl_ClaimShut.body 0 0 K_impl_ClaimShut)
noncomputable def it_impl_ClaimShut_0 (N : Nat) (b : Book) (valve : Txt) (t14 : Int) (n : Nat) : Int → (List Int) → Option (List Int) := fun t15 out5a => its_impl_ClaimShut_0 N n (S_impl_ClaimShut_0 b valve t14 t15 out5a)
theorem fe_impl_ClaimShut_0 (N : Nat) : it_impl_ClaimShut_0 N = impl_ClaimShut_0 N := funext fun b => funext fun valve => funext fun t14 => funext (lp_all (by kernel_rfl) fun n => by
    show _ = impl_ClaimShut_0r N b valve t14 (it_impl_ClaimShut_0 N b valve t14 n)
    kernel_rfl)
theorem run_impl_ClaimShut (N : Nat) (b : (List ((List UInt8) × (List UInt8))) × ((List ((List UInt8) × ((Int) × ((Int) × ((Int) × (List Txt)))))) × ((List Txt) × ((List (((Int) × ((Int) × ((List Txt) × ((List ((List UInt8) × ((Int) × (Int)))) × ((List Txt) × (List Txt)))))) × (Bool))) × (Int))))) (valve : List UInt8) : runST (ofDs [.slice tInt]) (tabOf tabL) (tabS (phiL_impl_ClaimShut N)) inl0 N fi_impl_ClaimShut sg_impl_ClaimShut [⟨tBook, b⟩, ⟨.str, valve⟩] = F.impl_ClaimShut N b valve := by
    show _ = F.impl_ClaimShutb N (F.impl_ClaimShut_0 N) b valve
    rw [← fe_impl_ClaimShut_0 N]
    kernel_rfl
def sm_impl_ClaimShut (N : Nat) : Summ := summOf [.d tBook true, .d (.str) false] false [.own (.slice tInt) false [(3, none)]] [.slice tInt] (F.impl_ClaimShut N)
theorem con_impl_ClaimShut (N : Nat) : Contract Try.prog 22 (sm_impl_ClaimShut N) := con_of (N := N) tabOK mixed (callOK_list (l := phiL_impl_ClaimShut N) (allc rfl (con_impl_ClaimBookOk N) (allc rfl (con_slices_Contains_string N) trivial))) (inl0_ok _) ok_impl_ClaimShut (by decide) fun b valve => run_impl_ClaimShut N b valve
def an_laws_eqIntS : Nat → Option Ann
  | 0 => some ⟨{ fr := [(0, Dir.keep), (1, Dir.keep), (5, Dir.keep)], bx := [], os := [] }, [(0, { fr := [], bx := [], os := [] })], { fr := [(4, Dir.keep)], bx := [], os := [] }⟩
  | _ => none
noncomputable def fi_laws_eqIntS : FI := ⟨Try.f23.results.toList, bodyOf Try.f23.body, Try.f23.ntmps, an_laws_eqIntS⟩
theorem ok_laws_eqIntS : FnOK Try.prog 23 fi_laws_eqIntS := ⟨⟨Try.f23, Try.func23, by kernel_rfl, rfl, rfl, by kernel_rfl⟩, by kernel_rfl⟩
def phiL_laws_eqIntS (N : Nat) : List (Nat × Summ) := []
def sg_laws_eqIntS : Summ := sigOf [.d (.slice tInt) false, .d (.slice tInt) false] false [.d (.bool) false]
def S_laws_eqIntS_0 (a : List Int) (b : List Int) (i5 : Int) : St := { fr := [(0, AV.w (V1.one (C.v tInt.slice a))), (1, AV.w (V1.one (C.v tInt.slice b))), (5, AV.w (V1.one (C.v tInt i5)))], H := [] }
noncomputable def E_laws_eqIntS (N : Nat) : Env := envOf (tabOf tabL) (tabS (phiL_laws_eqIntS N)) inl0 N fi_laws_eqIntS []
noncomputable def K_laws_eqIntS := (kFun (tabOf tabL) fi_laws_eqIntS.res (kT (ofDs [.bool]) sg_laws_eqIntS []))
noncomputable def its_laws_eqIntS_0 (N : Nat) (n : Nat) : St → Option Bool := fun S' => iter [] (annAt fi_laws_eqIntS 0) (code (E_laws_eqIntS N) (lpIn fi_laws_eqIntS.body 0 0) 0) n S' (contOf (E_laws_eqIntS N) fi_laws_eqIntS.body 0 0 K_laws_eqIntS)
noncomputable def it_laws_eqIntS_0 (N : Nat) (a : List Int) (b : List Int) (n : Nat) : Int → Option Bool := fun i5 => its_laws_eqIntS_0 N n (S_laws_eqIntS_0 a b i5)
theorem fe_laws_eqIntS_0 (N : Nat) : it_laws_eqIntS_0 N = laws_eqIntS_0 N := funext fun a => funext fun b => funext (lp_all (by kernel_rfl) fun n => by
    show _ = laws_eqIntS_0r N a b (it_laws_eqIntS_0 N a b n)
    kernel_rfl)
theorem run_laws_eqIntS (N : Nat) (a : List (Int)) (b : List (Int)) : runST (ofDs [.bool]) (tabOf tabL) (tabS (phiL_laws_eqIntS N)) inl0 N fi_laws_eqIntS sg_laws_eqIntS [⟨.slice tInt, a⟩, ⟨.slice tInt, b⟩] = F.laws_eqIntS N a b := by
    show _ = F.laws_eqIntSb N (F.laws_eqIntS_0 N) a b
    rw [← fe_laws_eqIntS_0 N]
    kernel_rfl
def sm_laws_eqIntS (N : Nat) : Summ := summOf [.d (.slice tInt) false, .d (.slice tInt) false] false [.d (.bool) false] [.bool] (F.laws_eqIntS N)
theorem con_laws_eqIntS (N : Nat) : Contract Try.prog 23 (sm_laws_eqIntS N) := con_of (N := N) tabOK mixed (callOK_list (l := phiL_laws_eqIntS N) trivial) (inl0_ok _) ok_laws_eqIntS (by decide) fun a b => run_laws_eqIntS N a b
def an_laws_eqClaimFoe : Nat → Option Ann := fun _ => none
noncomputable def fi_laws_eqClaimFoe : FI := ⟨Try.f108.results.toList, bodyOf Try.f108.body, Try.f108.ntmps, an_laws_eqClaimFoe⟩
theorem ok_laws_eqClaimFoe : FnOK Try.prog 108 fi_laws_eqClaimFoe := ⟨⟨Try.f108, Try.func108, by kernel_rfl, rfl, rfl, by kernel_rfl⟩, by kernel_rfl⟩
def phiL_laws_eqClaimFoe (N : Nat) : List (Nat × Summ) := []
def sg_laws_eqClaimFoe : Summ := sigOf [.d tFoe true, .d tFoe true] false [.d (.bool) false]
theorem run_laws_eqClaimFoe (N : Nat) (a : (List UInt8) × (List UInt8)) (b : (List UInt8) × (List UInt8)) : runST (ofDs [.bool]) (tabOf tabL) (tabS (phiL_laws_eqClaimFoe N)) inl0 N fi_laws_eqClaimFoe sg_laws_eqClaimFoe [⟨tFoe, a⟩, ⟨tFoe, b⟩] = F.laws_eqClaimFoe N a b := by kernel_rfl
def sm_laws_eqClaimFoe (N : Nat) : Summ := summOf [.d tFoe true, .d tFoe true] false [.d (.bool) false] [.bool] (F.laws_eqClaimFoe N)
theorem con_laws_eqClaimFoe (N : Nat) : Contract Try.prog 108 (sm_laws_eqClaimFoe N) := con_of (N := N) tabOK mixed (callOK_list (l := phiL_laws_eqClaimFoe N) trivial) (inl0_ok _) ok_laws_eqClaimFoe (by decide) fun a b => run_laws_eqClaimFoe N a b
def an_laws_eqClaimFoeS : Nat → Option Ann
  | 0 => some ⟨{ fr := [(0, Dir.keep), (1, Dir.keep), (5, Dir.keep)], bx := [], os := [] }, [(0, { fr := [], bx := [], os := [] })], { fr := [(4, Dir.keep)], bx := [], os := [] }⟩
  | _ => none
noncomputable def fi_laws_eqClaimFoeS : FI := ⟨Try.f62.results.toList, bodyOf Try.f62.body, Try.f62.ntmps, an_laws_eqClaimFoeS⟩
theorem ok_laws_eqClaimFoeS : FnOK Try.prog 62 fi_laws_eqClaimFoeS := ⟨⟨Try.f62, Try.func62, by kernel_rfl, rfl, rfl, by kernel_rfl⟩, by kernel_rfl⟩
def phiL_laws_eqClaimFoeS (N : Nat) : List (Nat × Summ) := [(108, sm_laws_eqClaimFoe N)]
def sg_laws_eqClaimFoeS : Summ := sigOf [.d (.slice tFoe) false, .d (.slice tFoe) false] false [.d (.bool) false]
def S_laws_eqClaimFoeS_0 (a : List Foe) (b : List Foe) (i5 : Int) : St := { fr := [(0, AV.w (V1.one (C.v tFoe.slice a))), (1, AV.w (V1.one (C.v tFoe.slice b))), (5, AV.w (V1.one (C.v tInt i5)))], H := [] }
noncomputable def E_laws_eqClaimFoeS (N : Nat) : Env := envOf (tabOf tabL) (tabS (phiL_laws_eqClaimFoeS N)) inl0 N fi_laws_eqClaimFoeS []
noncomputable def K_laws_eqClaimFoeS := (kFun (tabOf tabL) fi_laws_eqClaimFoeS.res (kT (ofDs [.bool]) sg_laws_eqClaimFoeS []))
noncomputable def its_laws_eqClaimFoeS_0 (N : Nat) (n : Nat) : St → Option Bool := fun S' => iter [] (annAt fi_laws_eqClaimFoeS 0) (code (E_laws_eqClaimFoeS N) (lpIn fi_laws_eqClaimFoeS.body 0 0) 0) n S' (contOf (E_laws_eqClaimFoeS N) fi_laws_eqClaimFoeS.body 0 0 K_laws_eqClaimFoeS)
noncomputable def it_laws_eqClaimFoeS_0 (N : Nat) (a : List Foe) (b : List Foe) (n : Nat) : Int → Option Bool := fun i5 => its_laws_eqClaimFoeS_0 N n (S_laws_eqClaimFoeS_0 a b i5)
theorem fe_laws_eqClaimFoeS_0 (N : Nat) : it_laws_eqClaimFoeS_0 N = laws_eqClaimFoeS_0 N := funext fun a => funext fun b => funext (lp_all (by kernel_rfl) fun n => by
    show _ = laws_eqClaimFoeS_0r N a b (it_laws_eqClaimFoeS_0 N a b n)
    kernel_rfl)
theorem run_laws_eqClaimFoeS (N : Nat) (a : List ((List UInt8) × (List UInt8))) (b : List ((List UInt8) × (List UInt8))) : runST (ofDs [.bool]) (tabOf tabL) (tabS (phiL_laws_eqClaimFoeS N)) inl0 N fi_laws_eqClaimFoeS sg_laws_eqClaimFoeS [⟨.slice tFoe, a⟩, ⟨.slice tFoe, b⟩] = F.laws_eqClaimFoeS N a b := by
    show _ = F.laws_eqClaimFoeSb N (F.laws_eqClaimFoeS_0 N) a b
    rw [← fe_laws_eqClaimFoeS_0 N]
    kernel_rfl
def sm_laws_eqClaimFoeS (N : Nat) : Summ := summOf [.d (.slice tFoe) false, .d (.slice tFoe) false] false [.d (.bool) false] [.bool] (F.laws_eqClaimFoeS N)
theorem con_laws_eqClaimFoeS (N : Nat) : Contract Try.prog 62 (sm_laws_eqClaimFoeS N) := con_of (N := N) tabOK mixed (callOK_list (l := phiL_laws_eqClaimFoeS N) (allc rfl (con_laws_eqClaimFoe N) trivial)) (inl0_ok _) ok_laws_eqClaimFoeS (by decide) fun a b => run_laws_eqClaimFoeS N a b
def an_laws_eqStringS : Nat → Option Ann
  | 0 => some ⟨{ fr := [(0, Dir.keep), (1, Dir.keep), (5, Dir.keep)], bx := [], os := [] }, [(0, { fr := [], bx := [], os := [] })], { fr := [(4, Dir.keep)], bx := [], os := [] }⟩
  | _ => none
noncomputable def fi_laws_eqStringS : FI := ⟨Try.f46.results.toList, bodyOf Try.f46.body, Try.f46.ntmps, an_laws_eqStringS⟩
theorem ok_laws_eqStringS : FnOK Try.prog 46 fi_laws_eqStringS := ⟨⟨Try.f46, Try.func46, by kernel_rfl, rfl, rfl, by kernel_rfl⟩, by kernel_rfl⟩
def phiL_laws_eqStringS (N : Nat) : List (Nat × Summ) := []
def sg_laws_eqStringS : Summ := sigOf [.d tTxts false, .d tTxts false] false [.d (.bool) false]
def S_laws_eqStringS_0 (a : List Txt) (b : List Txt) (i5 : Int) : St := { fr := [(0, AV.w (V1.one (C.v tTxts a))), (1, AV.w (V1.one (C.v tTxts b))), (5, AV.w (V1.one (C.v tInt i5)))], H := [] }
noncomputable def E_laws_eqStringS (N : Nat) : Env := envOf (tabOf tabL) (tabS (phiL_laws_eqStringS N)) inl0 N fi_laws_eqStringS []
noncomputable def K_laws_eqStringS := (kFun (tabOf tabL) fi_laws_eqStringS.res (kT (ofDs [.bool]) sg_laws_eqStringS []))
noncomputable def its_laws_eqStringS_0 (N : Nat) (n : Nat) : St → Option Bool := fun S' => iter [] (annAt fi_laws_eqStringS 0) (code (E_laws_eqStringS N) (lpIn fi_laws_eqStringS.body 0 0) 0) n S' (contOf (E_laws_eqStringS N) fi_laws_eqStringS.body 0 0 K_laws_eqStringS)
noncomputable def it_laws_eqStringS_0 (N : Nat) (a : List Txt) (b : List Txt) (n : Nat) : Int → Option Bool := fun i5 => its_laws_eqStringS_0 N n (S_laws_eqStringS_0 a b i5)
theorem fe_laws_eqStringS_0 (N : Nat) : it_laws_eqStringS_0 N = laws_eqStringS_0 N := funext fun a => funext fun b => funext (lp_all (by kernel_rfl) fun n => by
    show _ = laws_eqStringS_0r N a b (it_laws_eqStringS_0 N a b n)
    kernel_rfl)
theorem run_laws_eqStringS (N : Nat) (a : List (List UInt8)) (b : List (List UInt8)) : runST (ofDs [.bool]) (tabOf tabL) (tabS (phiL_laws_eqStringS N)) inl0 N fi_laws_eqStringS sg_laws_eqStringS [⟨tTxts, a⟩, ⟨tTxts, b⟩] = F.laws_eqStringS N a b := by
    show _ = F.laws_eqStringSb N (F.laws_eqStringS_0 N) a b
    rw [← fe_laws_eqStringS_0 N]
    kernel_rfl
def sm_laws_eqStringS (N : Nat) : Summ := summOf [.d tTxts false, .d tTxts false] false [.d (.bool) false] [.bool] (F.laws_eqStringS N)
theorem con_laws_eqStringS (N : Nat) : Contract Try.prog 46 (sm_laws_eqStringS N) := con_of (N := N) tabOK mixed (callOK_list (l := phiL_laws_eqStringS N) trivial) (inl0_ok _) ok_laws_eqStringS (by decide) fun a b => run_laws_eqStringS N a b
def an_laws_eqClaimSpot : Nat → Option Ann := fun _ => none
noncomputable def fi_laws_eqClaimSpot : FI := ⟨Try.f109.results.toList, bodyOf Try.f109.body, Try.f109.ntmps, an_laws_eqClaimSpot⟩
theorem ok_laws_eqClaimSpot : FnOK Try.prog 109 fi_laws_eqClaimSpot := ⟨⟨Try.f109, Try.func109, by kernel_rfl, rfl, rfl, by kernel_rfl⟩, by kernel_rfl⟩
def phiL_laws_eqClaimSpot (N : Nat) : List (Nat × Summ) := [(46, sm_laws_eqStringS N)]
def sg_laws_eqClaimSpot : Summ := sigOf [.d tSpot true, .d tSpot true] false [.d (.bool) false]
theorem run_laws_eqClaimSpot (N : Nat) (a : (List UInt8) × ((Int) × ((Int) × ((Int) × (List Txt))))) (b : (List UInt8) × ((Int) × ((Int) × ((Int) × (List Txt))))) : runST (ofDs [.bool]) (tabOf tabL) (tabS (phiL_laws_eqClaimSpot N)) inl0 N fi_laws_eqClaimSpot sg_laws_eqClaimSpot [⟨tSpot, a⟩, ⟨tSpot, b⟩] = F.laws_eqClaimSpot N a b := by kernel_rfl
def sm_laws_eqClaimSpot (N : Nat) : Summ := summOf [.d tSpot true, .d tSpot true] false [.d (.bool) false] [.bool] (F.laws_eqClaimSpot N)
theorem con_laws_eqClaimSpot (N : Nat) : Contract Try.prog 109 (sm_laws_eqClaimSpot N) := con_of (N := N) tabOK mixed (callOK_list (l := phiL_laws_eqClaimSpot N) (allc rfl (con_laws_eqStringS N) trivial)) (inl0_ok _) ok_laws_eqClaimSpot (by decide) fun a b => run_laws_eqClaimSpot N a b
def an_laws_eqClaimSpotS : Nat → Option Ann
  | 0 => some ⟨{ fr := [(0, Dir.keep), (1, Dir.keep), (5, Dir.keep)], bx := [], os := [] }, [(0, { fr := [], bx := [], os := [] })], { fr := [(4, Dir.keep)], bx := [], os := [] }⟩
  | _ => none
noncomputable def fi_laws_eqClaimSpotS : FI := ⟨Try.f63.results.toList, bodyOf Try.f63.body, Try.f63.ntmps, an_laws_eqClaimSpotS⟩
theorem ok_laws_eqClaimSpotS : FnOK Try.prog 63 fi_laws_eqClaimSpotS := ⟨⟨Try.f63, Try.func63, by kernel_rfl, rfl, rfl, by kernel_rfl⟩, by kernel_rfl⟩
def phiL_laws_eqClaimSpotS (N : Nat) : List (Nat × Summ) := [(109, sm_laws_eqClaimSpot N)]
def sg_laws_eqClaimSpotS : Summ := sigOf [.d (.slice tSpot) false, .d (.slice tSpot) false] false [.d (.bool) false]
def S_laws_eqClaimSpotS_0 (a : List Spot) (b : List Spot) (i5 : Int) : St := { fr := [(0, AV.w (V1.one (C.v tSpot.slice a))), (1, AV.w (V1.one (C.v tSpot.slice b))), (5, AV.w (V1.one (C.v tInt i5)))], H := [] }
noncomputable def E_laws_eqClaimSpotS (N : Nat) : Env := envOf (tabOf tabL) (tabS (phiL_laws_eqClaimSpotS N)) inl0 N fi_laws_eqClaimSpotS []
noncomputable def K_laws_eqClaimSpotS := (kFun (tabOf tabL) fi_laws_eqClaimSpotS.res (kT (ofDs [.bool]) sg_laws_eqClaimSpotS []))
noncomputable def its_laws_eqClaimSpotS_0 (N : Nat) (n : Nat) : St → Option Bool := fun S' => iter [] (annAt fi_laws_eqClaimSpotS 0) (code (E_laws_eqClaimSpotS N) (lpIn fi_laws_eqClaimSpotS.body 0 0) 0) n S' (contOf (E_laws_eqClaimSpotS N) fi_laws_eqClaimSpotS.body 0 0 K_laws_eqClaimSpotS)
noncomputable def it_laws_eqClaimSpotS_0 (N : Nat) (a : List Spot) (b : List Spot) (n : Nat) : Int → Option Bool := fun i5 => its_laws_eqClaimSpotS_0 N n (S_laws_eqClaimSpotS_0 a b i5)
theorem fe_laws_eqClaimSpotS_0 (N : Nat) : it_laws_eqClaimSpotS_0 N = laws_eqClaimSpotS_0 N := funext fun a => funext fun b => funext (lp_all (by kernel_rfl) fun n => by
    show _ = laws_eqClaimSpotS_0r N a b (it_laws_eqClaimSpotS_0 N a b n)
    kernel_rfl)
theorem run_laws_eqClaimSpotS (N : Nat) (a : List ((List UInt8) × ((Int) × ((Int) × ((Int) × (List Txt)))))) (b : List ((List UInt8) × ((Int) × ((Int) × ((Int) × (List Txt)))))) : runST (ofDs [.bool]) (tabOf tabL) (tabS (phiL_laws_eqClaimSpotS N)) inl0 N fi_laws_eqClaimSpotS sg_laws_eqClaimSpotS [⟨.slice tSpot, a⟩, ⟨.slice tSpot, b⟩] = F.laws_eqClaimSpotS N a b := by
    show _ = F.laws_eqClaimSpotSb N (F.laws_eqClaimSpotS_0 N) a b
    rw [← fe_laws_eqClaimSpotS_0 N]
    kernel_rfl
def sm_laws_eqClaimSpotS (N : Nat) : Summ := summOf [.d (.slice tSpot) false, .d (.slice tSpot) false] false [.d (.bool) false] [.bool] (F.laws_eqClaimSpotS N)
theorem con_laws_eqClaimSpotS (N : Nat) : Contract Try.prog 63 (sm_laws_eqClaimSpotS N) := con_of (N := N) tabOK mixed (callOK_list (l := phiL_laws_eqClaimSpotS N) (allc rfl (con_laws_eqClaimSpot N) trivial)) (inl0_ok _) ok_laws_eqClaimSpotS (by decide) fun a b => run_laws_eqClaimSpotS N a b
def an_laws_eqClaimUse : Nat → Option Ann := fun _ => none
noncomputable def fi_laws_eqClaimUse : FI := ⟨Try.f92.results.toList, bodyOf Try.f92.body, Try.f92.ntmps, an_laws_eqClaimUse⟩
theorem ok_laws_eqClaimUse : FnOK Try.prog 92 fi_laws_eqClaimUse := ⟨⟨Try.f92, Try.func92, by kernel_rfl, rfl, rfl, by kernel_rfl⟩, by kernel_rfl⟩
def phiL_laws_eqClaimUse (N : Nat) : List (Nat × Summ) := []
def sg_laws_eqClaimUse : Summ := sigOf [.d tUse true, .d tUse true] false [.d (.bool) false]
theorem run_laws_eqClaimUse (N : Nat) (a : (List UInt8) × ((Int) × (Int))) (b : (List UInt8) × ((Int) × (Int))) : runST (ofDs [.bool]) (tabOf tabL) (tabS (phiL_laws_eqClaimUse N)) inl0 N fi_laws_eqClaimUse sg_laws_eqClaimUse [⟨tUse, a⟩, ⟨tUse, b⟩] = F.laws_eqClaimUse N a b := by kernel_rfl
def sm_laws_eqClaimUse (N : Nat) : Summ := summOf [.d tUse true, .d tUse true] false [.d (.bool) false] [.bool] (F.laws_eqClaimUse N)
theorem con_laws_eqClaimUse (N : Nat) : Contract Try.prog 92 (sm_laws_eqClaimUse N) := con_of (N := N) tabOK mixed (callOK_list (l := phiL_laws_eqClaimUse N) trivial) (inl0_ok _) ok_laws_eqClaimUse (by decide) fun a b => run_laws_eqClaimUse N a b
def an_laws_eqClaimUseS : Nat → Option Ann
  | 0 => some ⟨{ fr := [(0, Dir.keep), (1, Dir.keep), (5, Dir.keep)], bx := [], os := [] }, [(0, { fr := [], bx := [], os := [] })], { fr := [(4, Dir.keep)], bx := [], os := [] }⟩
  | _ => none
noncomputable def fi_laws_eqClaimUseS : FI := ⟨Try.f47.results.toList, bodyOf Try.f47.body, Try.f47.ntmps, an_laws_eqClaimUseS⟩
theorem ok_laws_eqClaimUseS : FnOK Try.prog 47 fi_laws_eqClaimUseS := ⟨⟨Try.f47, Try.func47, by kernel_rfl, rfl, rfl, by kernel_rfl⟩, by kernel_rfl⟩
def phiL_laws_eqClaimUseS (N : Nat) : List (Nat × Summ) := [(92, sm_laws_eqClaimUse N)]
def sg_laws_eqClaimUseS : Summ := sigOf [.d (.slice tUse) false, .d (.slice tUse) false] false [.d (.bool) false]
def S_laws_eqClaimUseS_0 (a : List Use) (b : List Use) (i5 : Int) : St := { fr := [(0, AV.w (V1.one (C.v tUse.slice a))), (1, AV.w (V1.one (C.v tUse.slice b))), (5, AV.w (V1.one (C.v tInt i5)))], H := [] }
noncomputable def E_laws_eqClaimUseS (N : Nat) : Env := envOf (tabOf tabL) (tabS (phiL_laws_eqClaimUseS N)) inl0 N fi_laws_eqClaimUseS []
noncomputable def K_laws_eqClaimUseS := (kFun (tabOf tabL) fi_laws_eqClaimUseS.res (kT (ofDs [.bool]) sg_laws_eqClaimUseS []))
noncomputable def its_laws_eqClaimUseS_0 (N : Nat) (n : Nat) : St → Option Bool := fun S' => iter [] (annAt fi_laws_eqClaimUseS 0) (code (E_laws_eqClaimUseS N) (lpIn fi_laws_eqClaimUseS.body 0 0) 0) n S' (contOf (E_laws_eqClaimUseS N) fi_laws_eqClaimUseS.body 0 0 K_laws_eqClaimUseS)
noncomputable def it_laws_eqClaimUseS_0 (N : Nat) (a : List Use) (b : List Use) (n : Nat) : Int → Option Bool := fun i5 => its_laws_eqClaimUseS_0 N n (S_laws_eqClaimUseS_0 a b i5)
theorem fe_laws_eqClaimUseS_0 (N : Nat) : it_laws_eqClaimUseS_0 N = laws_eqClaimUseS_0 N := funext fun a => funext fun b => funext (lp_all (by kernel_rfl) fun n => by
    show _ = laws_eqClaimUseS_0r N a b (it_laws_eqClaimUseS_0 N a b n)
    kernel_rfl)
theorem run_laws_eqClaimUseS (N : Nat) (a : List ((List UInt8) × ((Int) × (Int)))) (b : List ((List UInt8) × ((Int) × (Int)))) : runST (ofDs [.bool]) (tabOf tabL) (tabS (phiL_laws_eqClaimUseS N)) inl0 N fi_laws_eqClaimUseS sg_laws_eqClaimUseS [⟨.slice tUse, a⟩, ⟨.slice tUse, b⟩] = F.laws_eqClaimUseS N a b := by
    show _ = F.laws_eqClaimUseSb N (F.laws_eqClaimUseS_0 N) a b
    rw [← fe_laws_eqClaimUseS_0 N]
    kernel_rfl
def sm_laws_eqClaimUseS (N : Nat) : Summ := summOf [.d (.slice tUse) false, .d (.slice tUse) false] false [.d (.bool) false] [.bool] (F.laws_eqClaimUseS N)
theorem con_laws_eqClaimUseS (N : Nat) : Contract Try.prog 47 (sm_laws_eqClaimUseS N) := con_of (N := N) tabOK mixed (callOK_list (l := phiL_laws_eqClaimUseS N) (allc rfl (con_laws_eqClaimUse N) trivial)) (inl0_ok _) ok_laws_eqClaimUseS (by decide) fun a b => run_laws_eqClaimUseS N a b
def an_laws_eqClaimWant : Nat → Option Ann := fun _ => none
noncomputable def fi_laws_eqClaimWant : FI := ⟨Try.f13.results.toList, bodyOf Try.f13.body, Try.f13.ntmps, an_laws_eqClaimWant⟩
theorem ok_laws_eqClaimWant : FnOK Try.prog 13 fi_laws_eqClaimWant := ⟨⟨Try.f13, Try.func13, by kernel_rfl, rfl, rfl, by kernel_rfl⟩, by kernel_rfl⟩
def phiL_laws_eqClaimWant (N : Nat) : List (Nat × Summ) := [(46, sm_laws_eqStringS N), (47, sm_laws_eqClaimUseS N)]
def sg_laws_eqClaimWant : Summ := sigOf [.d tWant true, .d tWant true] false [.d (.bool) false]
theorem run_laws_eqClaimWant (N : Nat) (a : (Int) × ((Int) × ((List Txt) × ((List ((List UInt8) × ((Int) × (Int)))) × ((List Txt) × (List Txt)))))) (b : (Int) × ((Int) × ((List Txt) × ((List ((List UInt8) × ((Int) × (Int)))) × ((List Txt) × (List Txt)))))) : runST (ofDs [.bool]) (tabOf tabL) (tabS (phiL_laws_eqClaimWant N)) inl0 N fi_laws_eqClaimWant sg_laws_eqClaimWant [⟨tWant, a⟩, ⟨tWant, b⟩] = F.laws_eqClaimWant N a b := by kernel_rfl
def sm_laws_eqClaimWant (N : Nat) : Summ := summOf [.d tWant true, .d tWant true] false [.d (.bool) false] [.bool] (F.laws_eqClaimWant N)
theorem con_laws_eqClaimWant (N : Nat) : Contract Try.prog 13 (sm_laws_eqClaimWant N) := con_of (N := N) tabOK mixed (callOK_list (l := phiL_laws_eqClaimWant N) (allc rfl (con_laws_eqStringS N) (allc rfl (con_laws_eqClaimUseS N) trivial))) (inl0_ok _) ok_laws_eqClaimWant (by decide) fun a b => run_laws_eqClaimWant N a b
def an_laws_eqClaimPart : Nat → Option Ann := fun _ => none
noncomputable def fi_laws_eqClaimPart : FI := ⟨Try.f110.results.toList, bodyOf Try.f110.body, Try.f110.ntmps, an_laws_eqClaimPart⟩
theorem ok_laws_eqClaimPart : FnOK Try.prog 110 fi_laws_eqClaimPart := ⟨⟨Try.f110, Try.func110, by kernel_rfl, rfl, rfl, by kernel_rfl⟩, by kernel_rfl⟩
def phiL_laws_eqClaimPart (N : Nat) : List (Nat × Summ) := [(13, sm_laws_eqClaimWant N)]
def sg_laws_eqClaimPart : Summ := sigOf [.d tPart true, .d tPart true] false [.d (.bool) false]
theorem run_laws_eqClaimPart (N : Nat) (a : ((Int) × ((Int) × ((List Txt) × ((List ((List UInt8) × ((Int) × (Int)))) × ((List Txt) × (List Txt)))))) × (Bool)) (b : ((Int) × ((Int) × ((List Txt) × ((List ((List UInt8) × ((Int) × (Int)))) × ((List Txt) × (List Txt)))))) × (Bool)) : runST (ofDs [.bool]) (tabOf tabL) (tabS (phiL_laws_eqClaimPart N)) inl0 N fi_laws_eqClaimPart sg_laws_eqClaimPart [⟨tPart, a⟩, ⟨tPart, b⟩] = F.laws_eqClaimPart N a b := by kernel_rfl
def sm_laws_eqClaimPart (N : Nat) : Summ := summOf [.d tPart true, .d tPart true] false [.d (.bool) false] [.bool] (F.laws_eqClaimPart N)
theorem con_laws_eqClaimPart (N : Nat) : Contract Try.prog 110 (sm_laws_eqClaimPart N) := con_of (N := N) tabOK mixed (callOK_list (l := phiL_laws_eqClaimPart N) (allc rfl (con_laws_eqClaimWant N) trivial)) (inl0_ok _) ok_laws_eqClaimPart (by decide) fun a b => run_laws_eqClaimPart N a b
def an_laws_eqClaimPartS : Nat → Option Ann
  | 0 => some ⟨{ fr := [(0, Dir.keep), (1, Dir.keep), (5, Dir.keep)], bx := [], os := [] }, [(0, { fr := [], bx := [], os := [] })], { fr := [(4, Dir.keep)], bx := [], os := [] }⟩
  | _ => none
noncomputable def fi_laws_eqClaimPartS : FI := ⟨Try.f64.results.toList, bodyOf Try.f64.body, Try.f64.ntmps, an_laws_eqClaimPartS⟩
theorem ok_laws_eqClaimPartS : FnOK Try.prog 64 fi_laws_eqClaimPartS := ⟨⟨Try.f64, Try.func64, by kernel_rfl, rfl, rfl, by kernel_rfl⟩, by kernel_rfl⟩
def phiL_laws_eqClaimPartS (N : Nat) : List (Nat × Summ) := [(110, sm_laws_eqClaimPart N)]
def sg_laws_eqClaimPartS : Summ := sigOf [.d (.slice tPart) false, .d (.slice tPart) false] false [.d (.bool) false]
def S_laws_eqClaimPartS_0 (a : List Part) (b : List Part) (i5 : Int) : St := { fr := [(0, AV.w (V1.one (C.v tPart.slice a))), (1, AV.w (V1.one (C.v tPart.slice b))), (5, AV.w (V1.one (C.v tInt i5)))], H := [] }
noncomputable def E_laws_eqClaimPartS (N : Nat) : Env := envOf (tabOf tabL) (tabS (phiL_laws_eqClaimPartS N)) inl0 N fi_laws_eqClaimPartS []
noncomputable def K_laws_eqClaimPartS := (kFun (tabOf tabL) fi_laws_eqClaimPartS.res (kT (ofDs [.bool]) sg_laws_eqClaimPartS []))
noncomputable def its_laws_eqClaimPartS_0 (N : Nat) (n : Nat) : St → Option Bool := fun S' => iter [] (annAt fi_laws_eqClaimPartS 0) (code (E_laws_eqClaimPartS N) (lpIn fi_laws_eqClaimPartS.body 0 0) 0) n S' (contOf (E_laws_eqClaimPartS N) fi_laws_eqClaimPartS.body 0 0 K_laws_eqClaimPartS)
noncomputable def it_laws_eqClaimPartS_0 (N : Nat) (a : List Part) (b : List Part) (n : Nat) : Int → Option Bool := fun i5 => its_laws_eqClaimPartS_0 N n (S_laws_eqClaimPartS_0 a b i5)
theorem fe_laws_eqClaimPartS_0 (N : Nat) : it_laws_eqClaimPartS_0 N = laws_eqClaimPartS_0 N := funext fun a => funext fun b => funext (lp_all (by kernel_rfl) fun n => by
    show _ = laws_eqClaimPartS_0r N a b (it_laws_eqClaimPartS_0 N a b n)
    kernel_rfl)
theorem run_laws_eqClaimPartS (N : Nat) (a : List (((Int) × ((Int) × ((List Txt) × ((List ((List UInt8) × ((Int) × (Int)))) × ((List Txt) × (List Txt)))))) × (Bool))) (b : List (((Int) × ((Int) × ((List Txt) × ((List ((List UInt8) × ((Int) × (Int)))) × ((List Txt) × (List Txt)))))) × (Bool))) : runST (ofDs [.bool]) (tabOf tabL) (tabS (phiL_laws_eqClaimPartS N)) inl0 N fi_laws_eqClaimPartS sg_laws_eqClaimPartS [⟨.slice tPart, a⟩, ⟨.slice tPart, b⟩] = F.laws_eqClaimPartS N a b := by
    show _ = F.laws_eqClaimPartSb N (F.laws_eqClaimPartS_0 N) a b
    rw [← fe_laws_eqClaimPartS_0 N]
    kernel_rfl
def sm_laws_eqClaimPartS (N : Nat) : Summ := summOf [.d (.slice tPart) false, .d (.slice tPart) false] false [.d (.bool) false] [.bool] (F.laws_eqClaimPartS N)
theorem con_laws_eqClaimPartS (N : Nat) : Contract Try.prog 64 (sm_laws_eqClaimPartS N) := con_of (N := N) tabOK mixed (callOK_list (l := phiL_laws_eqClaimPartS N) (allc rfl (con_laws_eqClaimPart N) trivial)) (inl0_ok _) ok_laws_eqClaimPartS (by decide) fun a b => run_laws_eqClaimPartS N a b
def an_laws_eqClaimBook : Nat → Option Ann := fun _ => none
noncomputable def fi_laws_eqClaimBook : FI := ⟨Try.f18.results.toList, bodyOf Try.f18.body, Try.f18.ntmps, an_laws_eqClaimBook⟩
theorem ok_laws_eqClaimBook : FnOK Try.prog 18 fi_laws_eqClaimBook := ⟨⟨Try.f18, Try.func18, by kernel_rfl, rfl, rfl, by kernel_rfl⟩, by kernel_rfl⟩
def phiL_laws_eqClaimBook (N : Nat) : List (Nat × Summ) := [(62, sm_laws_eqClaimFoeS N), (63, sm_laws_eqClaimSpotS N), (46, sm_laws_eqStringS N), (64, sm_laws_eqClaimPartS N)]
def sg_laws_eqClaimBook : Summ := sigOf [.d tBook true, .d tBook true] false [.d (.bool) false]
theorem run_laws_eqClaimBook (N : Nat) (a : (List ((List UInt8) × (List UInt8))) × ((List ((List UInt8) × ((Int) × ((Int) × ((Int) × (List Txt)))))) × ((List Txt) × ((List (((Int) × ((Int) × ((List Txt) × ((List ((List UInt8) × ((Int) × (Int)))) × ((List Txt) × (List Txt)))))) × (Bool))) × (Int))))) (b : (List ((List UInt8) × (List UInt8))) × ((List ((List UInt8) × ((Int) × ((Int) × ((Int) × (List Txt)))))) × ((List Txt) × ((List (((Int) × ((Int) × ((List Txt) × ((List ((List UInt8) × ((Int) × (Int)))) × ((List Txt) × (List Txt)))))) × (Bool))) × (Int))))) : runST (ofDs [.bool]) (tabOf tabL) (tabS (phiL_laws_eqClaimBook N)) inl0 N fi_laws_eqClaimBook sg_laws_eqClaimBook [⟨tBook, a⟩, ⟨tBook, b⟩] = F.laws_eqClaimBook N a b := by kernel_rfl
def sm_laws_eqClaimBook (N : Nat) : Summ := summOf [.d tBook true, .d tBook true] false [.d (.bool) false] [.bool] (F.laws_eqClaimBook N)
theorem con_laws_eqClaimBook (N : Nat) : Contract Try.prog 18 (sm_laws_eqClaimBook N) := con_of (N := N) tabOK mixed (callOK_list (l := phiL_laws_eqClaimBook N) (allc rfl (con_laws_eqClaimFoeS N) (allc rfl (con_laws_eqClaimSpotS N) (allc rfl (con_laws_eqStringS N) (allc rfl (con_laws_eqClaimPartS N) trivial))))) (inl0_ok _) ok_laws_eqClaimBook (by decide) fun a b => run_laws_eqClaimBook N a b
def an_laws_markText : Nat → Option Ann
  | 0 => some ⟨{ fr := [(0, Dir.keep), (3, Dir.keep)], bx := [], os := [] }, [(0, { fr := [(3, Dir.keep)], bx := [], os := [] })], ⟨[], [], []⟩⟩
  | _ => none
noncomputable def fi_laws_markText : FI := ⟨Try.f112.results.toList, bodyOf Try.f112.body, Try.f112.ntmps, an_laws_markText⟩
theorem ok_laws_markText : FnOK Try.prog 112 fi_laws_markText := ⟨⟨Try.f112, Try.func112, by kernel_rfl, rfl, rfl, by kernel_rfl⟩, by kernel_rfl⟩
def phiL_laws_markText (N : Nat) : List (Nat × Summ) := []
def sg_laws_markText : Summ := sigOf [.d tInt false] false [.d (.str) false]
def S_laws_markText_0 (k0_1 : Int) (out3 : Txt) : St := { fr := [(0, AV.w (V1.one (C.v tInt k0_1))), (3, AV.w (V1.one (C.v Ty.str out3)))], H := [] }
noncomputable def E_laws_markText (N : Nat) : Env := envOf (tabOf tabL) (tabS (phiL_laws_markText N)) inl0 N fi_laws_markText []
noncomputable def K_laws_markText := (kFun (tabOf tabL) fi_laws_markText.res (kT (ofDs [.str]) sg_laws_markText []))
noncomputable def its_laws_markText_0 (N : Nat) (n : Nat) : St → Option Txt := fun S' => iter [] (annAt fi_laws_markText 0) (code (E_laws_markText N) (lpIn fi_laws_markText.body 0 0) 0) n S' (contOf (E_laws_markText N) fi_laws_markText.body 0 0 K_laws_markText)
noncomputable def it_laws_markText_0 (N : Nat) (n : Nat) : Int → Txt → Option Txt := fun k0_1 out3 => its_laws_markText_0 N n (S_laws_markText_0 k0_1 out3)
theorem fe_laws_markText_0 (N : Nat) : it_laws_markText_0 N = laws_markText_0 N := funext (lp_all (by kernel_rfl) fun n => by
    show _ = laws_markText_0r N (it_laws_markText_0 N n)
    kernel_rfl)
theorem run_laws_markText (N : Nat) (k0 : Int) : runST (ofDs [.str]) (tabOf tabL) (tabS (phiL_laws_markText N)) inl0 N fi_laws_markText sg_laws_markText [⟨tInt, k0⟩] = F.laws_markText N k0 := by
    show _ = F.laws_markTextb N (F.laws_markText_0 N) k0
    rw [← fe_laws_markText_0 N]
    kernel_rfl
def sm_laws_markText (N : Nat) : Summ := summOf [.d tInt false] false [.d (.str) false] [.str] (F.laws_markText N)
theorem con_laws_markText (N : Nat) : Contract Try.prog 112 (sm_laws_markText N) := con_of (N := N) tabOK mixed (callOK_list (l := phiL_laws_markText N) trivial) (inl0_ok _) ok_laws_markText (by decide) fun k0 => run_laws_markText N k0
def an_laws_markClaimFoeS : Nat → Option Ann
  | 0 => some ⟨{ fr := [(0, Dir.keep), (1, Dir.keep), (5, Dir.keep)], bx := [], os := [400000] }, [(0, { fr := [(1, Dir.keep)], bx := [], os := [400000] })], ⟨[], [], []⟩⟩
  | _ => none
noncomputable def fi_laws_markClaimFoeS : FI := ⟨Try.f67.results.toList, bodyOf Try.f67.body, Try.f67.ntmps, an_laws_markClaimFoeS⟩
theorem ok_laws_markClaimFoeS : FnOK Try.prog 67 fi_laws_markClaimFoeS := ⟨⟨Try.f67, Try.func67, by kernel_rfl, rfl, rfl, by kernel_rfl⟩, by kernel_rfl⟩
def phiL_laws_markClaimFoeS (N : Nat) : List (Nat × Summ) := [(112, sm_laws_markText N)]
def sg_laws_markClaimFoeS : Summ := sigOf [.ow 86 tFoe none, .d tInt false] true [.d tInt false]
def S_laws_markClaimFoeS_0 (k1 : Int) (i5 : Int) (apa : List Foe) : St := { fr := [(0, AV.w (V1.one (C.arr 400000))), (1, AV.w (V1.one (C.v tInt k1))), (5, AV.w (V1.one (C.v tInt i5)))], H := [(400000, Ob.arr 86 tFoe apa)] }
noncomputable def E_laws_markClaimFoeS (N : Nat) : Env := envOf (tabOf tabL) (tabS (phiL_laws_markClaimFoeS N)) inl0 N fi_laws_markClaimFoeS [400000]
noncomputable def K_laws_markClaimFoeS := (kFun (tabOf tabL) fi_laws_markClaimFoeS.res (kT (ofDs [tInt, .slice tFoe]) sg_laws_markClaimFoeS [(400000, .ow 86 tFoe none)]))
noncomputable def its_laws_markClaimFoeS_0 (N : Nat) (n : Nat) : St → Option (Int × List Foe) := fun S' => iter [400000] (annAt fi_laws_markClaimFoeS 0) (code (E_laws_markClaimFoeS N) (lpIn fi_laws_markClaimFoeS.body 0 0) 0) n S' (contOf (E_laws_markClaimFoeS N) fi_laws_markClaimFoeS.body 0 0 K_laws_markClaimFoeS)
noncomputable def it_laws_markClaimFoeS_0 (N : Nat) (n : Nat) : Int → Int → (List Foe) → Option (Int × List Foe) := fun k1 i5 apa => its_laws_markClaimFoeS_0 N n (S_laws_markClaimFoeS_0 k1 i5 apa)
theorem fe_laws_markClaimFoeS_0 (N : Nat) : it_laws_markClaimFoeS_0 N = laws_markClaimFoeS_0 N := funext (lp_all (by kernel_rfl) fun n => by
    show _ = laws_markClaimFoeS_0r N (it_laws_markClaimFoeS_0 N n)
    kernel_rfl)
theorem run_laws_markClaimFoeS (N : Nat) (a : List ((List UInt8) × (List UInt8))) (k0 : Int) : runST (ofDs [tInt, .slice tFoe]) (tabOf tabL) (tabS (phiL_laws_markClaimFoeS N)) inl0 N fi_laws_markClaimFoeS sg_laws_markClaimFoeS [⟨.slice tFoe, a⟩, ⟨tInt, k0⟩] = F.laws_markClaimFoeS N a k0 := by
    show _ = F.laws_markClaimFoeSb N (F.laws_markClaimFoeS_0 N) a k0
    rw [← fe_laws_markClaimFoeS_0 N]
    kernel_rfl
def sm_laws_markClaimFoeS (N : Nat) : Summ := summOf [.ow 86 tFoe none, .d tInt false] true [.d tInt false] [tInt, .slice tFoe] (F.laws_markClaimFoeS N)
theorem con_laws_markClaimFoeS (N : Nat) : Contract Try.prog 67 (sm_laws_markClaimFoeS N) := con_of (N := N) tabOK mixed (callOK_list (l := phiL_laws_markClaimFoeS N) (allc rfl (con_laws_markText N) trivial)) (inl0_ok _) ok_laws_markClaimFoeS (by decide) fun a k0 => run_laws_markClaimFoeS N a k0
def an_laws_markStringS : Nat → Option Ann
  | 0 => some ⟨{ fr := [(0, Dir.keep), (1, Dir.keep), (5, Dir.keep)], bx := [], os := [400000] }, [(0, { fr := [(1, Dir.keep)], bx := [], os := [400000] })], ⟨[], [], []⟩⟩
  | _ => none
noncomputable def fi_laws_markStringS : FI := ⟨Try.f69.results.toList, bodyOf Try.f69.body, Try.f69.ntmps, an_laws_markStringS⟩
theorem ok_laws_markStringS : FnOK Try.prog 69 fi_laws_markStringS := ⟨⟨Try.f69, Try.func69, by kernel_rfl, rfl, rfl, by kernel_rfl⟩, by kernel_rfl⟩
def phiL_laws_markStringS (N : Nat) : List (Nat × Summ) := [(112, sm_laws_markText N)]
def sg_laws_markStringS : Summ := sigOf [.ow 9 (.str) none, .d tInt false] true [.d tInt false]
def S_laws_markStringS_0 (k1 : Int) (i5 : Int) (apa : List Txt) : St := { fr := [(0, AV.w (V1.one (C.arr 400000))), (1, AV.w (V1.one (C.v tInt k1))), (5, AV.w (V1.one (C.v tInt i5)))], H := [(400000, Ob.arr 9 Ty.str apa)] }
noncomputable def E_laws_markStringS (N : Nat) : Env := envOf (tabOf tabL) (tabS (phiL_laws_markStringS N)) inl0 N fi_laws_markStringS [400000]
noncomputable def K_laws_markStringS := (kFun (tabOf tabL) fi_laws_markStringS.res (kT (ofDs [tInt, tTxts]) sg_laws_markStringS [(400000, .ow 9 (.str) none)]))
noncomputable def its_laws_markStringS_0 (N : Nat) (n : Nat) : St → Option (Int × List Txt) := fun S' => iter [400000] (annAt fi_laws_markStringS 0) (code (E_laws_markStringS N) (lpIn fi_laws_markStringS.body 0 0) 0) n S' (contOf (E_laws_markStringS N) fi_laws_markStringS.body 0 0 K_laws_markStringS)
noncomputable def it_laws_markStringS_0 (N : Nat) (n : Nat) : Int → Int → (List Txt) → Option (Int × List Txt) := fun k1 i5 apa => its_laws_markStringS_0 N n (S_laws_markStringS_0 k1 i5 apa)
theorem fe_laws_markStringS_0 (N : Nat) : it_laws_markStringS_0 N = laws_markStringS_0 N := funext (lp_all (by kernel_rfl) fun n => by
    show _ = laws_markStringS_0r N (it_laws_markStringS_0 N n)
    kernel_rfl)
theorem run_laws_markStringS (N : Nat) (a : List (List UInt8)) (k0 : Int) : runST (ofDs [tInt, tTxts]) (tabOf tabL) (tabS (phiL_laws_markStringS N)) inl0 N fi_laws_markStringS sg_laws_markStringS [⟨tTxts, a⟩, ⟨tInt, k0⟩] = F.laws_markStringS N a k0 := by
    show _ = F.laws_markStringSb N (F.laws_markStringS_0 N) a k0
    rw [← fe_laws_markStringS_0 N]
    kernel_rfl
def sm_laws_markStringS (N : Nat) : Summ := summOf [.ow 9 (.str) none, .d tInt false] true [.d tInt false] [tInt, tTxts] (F.laws_markStringS N)
theorem con_laws_markStringS (N : Nat) : Contract Try.prog 69 (sm_laws_markStringS N) := con_of (N := N) tabOK mixed (callOK_list (l := phiL_laws_markStringS N) (allc rfl (con_laws_markText N) trivial)) (inl0_ok _) ok_laws_markStringS (by decide) fun a k0 => run_laws_markStringS N a k0
def an_laws_markClaimSpotS : Nat → Option Ann
  | 0 => some ⟨{ fr := [(0, Dir.keep), (1, Dir.keep), (5, Dir.keep)], bx := [], os := [400000] }, [(0, { fr := [(1, Dir.keep)], bx := [], os := [400000] })], ⟨[], [], []⟩⟩
  | _ => none
noncomputable def fi_laws_markClaimSpotS : FI := ⟨Try.f68.results.toList, bodyOf Try.f68.body, Try.f68.ntmps, an_laws_markClaimSpotS⟩
theorem ok_laws_markClaimSpotS : FnOK Try.prog 68 fi_laws_markClaimSpotS := ⟨⟨Try.f68, Try.func68, by kernel_rfl, rfl, rfl, by kernel_rfl⟩, by kernel_rfl⟩
def phiL_laws_markClaimSpotS (N : Nat) : List (Nat × Summ) := [(112, sm_laws_markText N), (69, sm_laws_markStringS N)]
def sg_laws_markClaimSpotS : Summ := sigOf [.ow 64 tSpot (some [9]), .d tInt false] true [.d tInt false]
def S_laws_markClaimSpotS_0 (k1 : Int) (i5 : Int) (apa : List Spot) : St := { fr := [(0, AV.w (V1.one (C.arr 400000))), (1, AV.w (V1.one (C.v tInt k1))), (5, AV.w (V1.one (C.v tInt i5)))], H := [(400000, Ob.arr 64 tSpot apa (Dp.yes [9]))] }
noncomputable def E_laws_markClaimSpotS (N : Nat) : Env := envOf (tabOf tabL) (tabS (phiL_laws_markClaimSpotS N)) inl0 N fi_laws_markClaimSpotS [400000]
noncomputable def K_laws_markClaimSpotS := (kFun (tabOf tabL) fi_laws_markClaimSpotS.res (kT (ofDs [tInt, .slice tSpot]) sg_laws_markClaimSpotS [(400000, .ow 64 tSpot (some [9]))]))
noncomputable def its_laws_markClaimSpotS_0 (N : Nat) (n : Nat) : St → Option (Int × List Spot) := fun S' => iter [400000] (annAt fi_laws_markClaimSpotS 0) (code (E_laws_markClaimSpotS N) (lpIn fi_laws_markClaimSpotS.body 0 0) 0) n S' (contOf (E_laws_markClaimSpotS N) fi_laws_markClaimSpotS.body 0 0 K_laws_markClaimSpotS)
noncomputable def it_laws_markClaimSpotS_0 (N : Nat) (n : Nat) : Int → Int → (List Spot) → Option (Int × List Spot) := fun k1 i5 apa => its_laws_markClaimSpotS_0 N n (S_laws_markClaimSpotS_0 k1 i5 apa)
theorem fe_laws_markClaimSpotS_0 (N : Nat) : it_laws_markClaimSpotS_0 N = laws_markClaimSpotS_0 N := funext (lp_all (by kernel_rfl) fun n => by
    show _ = laws_markClaimSpotS_0r N (it_laws_markClaimSpotS_0 N n)
    kernel_rfl)
theorem run_laws_markClaimSpotS (N : Nat) (a : List ((List UInt8) × ((Int) × ((Int) × ((Int) × (List Txt)))))) (k0 : Int) : runST (ofDs [tInt, .slice tSpot]) (tabOf tabL) (tabS (phiL_laws_markClaimSpotS N)) inl0 N fi_laws_markClaimSpotS sg_laws_markClaimSpotS [⟨.slice tSpot, a⟩, ⟨tInt, k0⟩] = F.laws_markClaimSpotS N a k0 := by
    show _ = F.laws_markClaimSpotSb N (F.laws_markClaimSpotS_0 N) a k0
    rw [← fe_laws_markClaimSpotS_0 N]
    kernel_rfl
def sm_laws_markClaimSpotS (N : Nat) : Summ := summOf [.ow 64 tSpot (some [9]), .d tInt false] true [.d tInt false] [tInt, .slice tSpot] (F.laws_markClaimSpotS N)
theorem con_laws_markClaimSpotS (N : Nat) : Contract Try.prog 68 (sm_laws_markClaimSpotS N) := con_of (N := N) tabOK mixed (callOK_list (l := phiL_laws_markClaimSpotS N) (allc rfl (con_laws_markText N) (allc rfl (con_laws_markStringS N) trivial))) (inl0_ok _) ok_laws_markClaimSpotS (by decide) fun a k0 => run_laws_markClaimSpotS N a k0
def an_laws_markClaimUseS : Nat → Option Ann
  | 0 => some ⟨{ fr := [(0, Dir.keep), (1, Dir.keep), (5, Dir.keep)], bx := [], os := [400000] }, [(0, { fr := [(1, Dir.keep)], bx := [], os := [400000] })], ⟨[], [], []⟩⟩
  | _ => none
noncomputable def fi_laws_markClaimUseS : FI := ⟨Try.f113.results.toList, bodyOf Try.f113.body, Try.f113.ntmps, an_laws_markClaimUseS⟩
theorem ok_laws_markClaimUseS : FnOK Try.prog 113 fi_laws_markClaimUseS := ⟨⟨Try.f113, Try.func113, by kernel_rfl, rfl, rfl, by kernel_rfl⟩, by kernel_rfl⟩
def phiL_laws_markClaimUseS (N : Nat) : List (Nat × Summ) := [(112, sm_laws_markText N)]
def sg_laws_markClaimUseS : Summ := sigOf [.ow 75 tUse none, .d tInt false] true [.d tInt false]
def S_laws_markClaimUseS_0 (k1 : Int) (i5 : Int) (apa : List Use) : St := { fr := [(0, AV.w (V1.one (C.arr 400000))), (1, AV.w (V1.one (C.v tInt k1))), (5, AV.w (V1.one (C.v tInt i5)))], H := [(400000, Ob.arr 75 tUse apa)] }
noncomputable def E_laws_markClaimUseS (N : Nat) : Env := envOf (tabOf tabL) (tabS (phiL_laws_markClaimUseS N)) inl0 N fi_laws_markClaimUseS [400000]
noncomputable def K_laws_markClaimUseS := (kFun (tabOf tabL) fi_laws_markClaimUseS.res (kT (ofDs [tInt, .slice tUse]) sg_laws_markClaimUseS [(400000, .ow 75 tUse none)]))
noncomputable def its_laws_markClaimUseS_0 (N : Nat) (n : Nat) : St → Option (Int × List Use) := fun S' => iter [400000] (annAt fi_laws_markClaimUseS 0) (code (E_laws_markClaimUseS N) (lpIn fi_laws_markClaimUseS.body 0 0) 0) n S' (contOf (E_laws_markClaimUseS N) fi_laws_markClaimUseS.body 0 0 K_laws_markClaimUseS)
noncomputable def it_laws_markClaimUseS_0 (N : Nat) (n : Nat) : Int → Int → (List Use) → Option (Int × List Use) := fun k1 i5 apa => its_laws_markClaimUseS_0 N n (S_laws_markClaimUseS_0 k1 i5 apa)
theorem fe_laws_markClaimUseS_0 (N : Nat) : it_laws_markClaimUseS_0 N = laws_markClaimUseS_0 N := funext (lp_all (by kernel_rfl) fun n => by
    show _ = laws_markClaimUseS_0r N (it_laws_markClaimUseS_0 N n)
    kernel_rfl)
theorem run_laws_markClaimUseS (N : Nat) (a : List ((List UInt8) × ((Int) × (Int)))) (k0 : Int) : runST (ofDs [tInt, .slice tUse]) (tabOf tabL) (tabS (phiL_laws_markClaimUseS N)) inl0 N fi_laws_markClaimUseS sg_laws_markClaimUseS [⟨.slice tUse, a⟩, ⟨tInt, k0⟩] = F.laws_markClaimUseS N a k0 := by
    show _ = F.laws_markClaimUseSb N (F.laws_markClaimUseS_0 N) a k0
    rw [← fe_laws_markClaimUseS_0 N]
    kernel_rfl
def sm_laws_markClaimUseS (N : Nat) : Summ := summOf [.ow 75 tUse none, .d tInt false] true [.d tInt false] [tInt, .slice tUse] (F.laws_markClaimUseS N)
theorem con_laws_markClaimUseS (N : Nat) : Contract Try.prog 113 (sm_laws_markClaimUseS N) := con_of (N := N) tabOK mixed (callOK_list (l := phiL_laws_markClaimUseS N) (allc rfl (con_laws_markText N) trivial)) (inl0_ok _) ok_laws_markClaimUseS (by decide) fun a k0 => run_laws_markClaimUseS N a k0
def an_laws_markClaimPartS : Nat → Option Ann
  | 0 => some ⟨{ fr := [(0, Dir.keep), (1, Dir.keep), (5, Dir.keep)], bx := [], os := [400000] }, [(0, { fr := [(1, Dir.keep)], bx := [], os := [400000] })], ⟨[], [], []⟩⟩
  | _ => none
noncomputable def fi_laws_markClaimPartS : FI := ⟨Try.f70.results.toList, bodyOf Try.f70.body, Try.f70.ntmps, an_laws_markClaimPartS⟩
theorem ok_laws_markClaimPartS : FnOK Try.prog 70 fi_laws_markClaimPartS := ⟨⟨Try.f70, Try.func70, by kernel_rfl, rfl, rfl, by kernel_rfl⟩, by kernel_rfl⟩
def phiL_laws_markClaimPartS (N : Nat) : List (Nat × Summ) := [(69, sm_laws_markStringS N), (113, sm_laws_markClaimUseS N)]
def sg_laws_markClaimPartS : Summ := sigOf [.ow 89 tPart (some [9, 75, 9, 9]), .d tInt false] true [.d tInt false]
def S_laws_markClaimPartS_0 (k1 : Int) (i5 : Int) (apa : List Part) : St := { fr := [(0, AV.w (V1.one (C.arr 400000))), (1, AV.w (V1.one (C.v tInt k1))), (5, AV.w (V1.one (C.v tInt i5)))], H := [(400000, Ob.arr 89 tPart apa (Dp.yes [9, 75, 9, 9]))] }
noncomputable def E_laws_markClaimPartS (N : Nat) : Env := envOf (tabOf tabL) (tabS (phiL_laws_markClaimPartS N)) inl0 N fi_laws_markClaimPartS [400000]
noncomputable def K_laws_markClaimPartS := (kFun (tabOf tabL) fi_laws_markClaimPartS.res (kT (ofDs [tInt, .slice tPart]) sg_laws_markClaimPartS [(400000, .ow 89 tPart (some [9, 75, 9, 9]))]))
noncomputable def its_laws_markClaimPartS_0 (N : Nat) (n : Nat) : St → Option (Int × List Part) := fun S' => iter [400000] (annAt fi_laws_markClaimPartS 0) (code (E_laws_markClaimPartS N) (lpIn fi_laws_markClaimPartS.body 0 0) 0) n S' (contOf (E_laws_markClaimPartS N) fi_laws_markClaimPartS.body 0 0 K_laws_markClaimPartS)
noncomputable def it_laws_markClaimPartS_0 (N : Nat) (n : Nat) : Int → Int → (List Part) → Option (Int × List Part) := fun k1 i5 apa => its_laws_markClaimPartS_0 N n (S_laws_markClaimPartS_0 k1 i5 apa)
theorem fe_laws_markClaimPartS_0 (N : Nat) : it_laws_markClaimPartS_0 N = laws_markClaimPartS_0 N := funext (lp_all (by kernel_rfl) fun n => by
    show _ = laws_markClaimPartS_0r N (it_laws_markClaimPartS_0 N n)
    kernel_rfl)
theorem run_laws_markClaimPartS (N : Nat) (a : List (((Int) × ((Int) × ((List Txt) × ((List ((List UInt8) × ((Int) × (Int)))) × ((List Txt) × (List Txt)))))) × (Bool))) (k0 : Int) : runST (ofDs [tInt, .slice tPart]) (tabOf tabL) (tabS (phiL_laws_markClaimPartS N)) inl0 N fi_laws_markClaimPartS sg_laws_markClaimPartS [⟨.slice tPart, a⟩, ⟨tInt, k0⟩] = F.laws_markClaimPartS N a k0 := by
    show _ = F.laws_markClaimPartSb N (F.laws_markClaimPartS_0 N) a k0
    rw [← fe_laws_markClaimPartS_0 N]
    kernel_rfl
def sm_laws_markClaimPartS (N : Nat) : Summ := summOf [.ow 89 tPart (some [9, 75, 9, 9]), .d tInt false] true [.d tInt false] [tInt, .slice tPart] (F.laws_markClaimPartS N)
theorem con_laws_markClaimPartS (N : Nat) : Contract Try.prog 70 (sm_laws_markClaimPartS N) := con_of (N := N) tabOK mixed (callOK_list (l := phiL_laws_markClaimPartS N) (allc rfl (con_laws_markStringS N) (allc rfl (con_laws_markClaimUseS N) trivial))) (inl0_ok _) ok_laws_markClaimPartS (by decide) fun a k0 => run_laws_markClaimPartS N a k0
def an_laws_markClaimBook : Nat → Option Ann := fun _ => none
noncomputable def fi_laws_markClaimBook : FI := ⟨Try.f24.results.toList, bodyOf Try.f24.body, Try.f24.ntmps, an_laws_markClaimBook⟩
theorem ok_laws_markClaimBook : FnOK Try.prog 24 fi_laws_markClaimBook := ⟨⟨Try.f24, Try.func24, by kernel_rfl, rfl, rfl, by kernel_rfl⟩, by kernel_rfl⟩
def phiL_laws_markClaimBook (N : Nat) : List (Nat × Summ) := [(67, sm_laws_markClaimFoeS N), (68, sm_laws_markClaimSpotS N), (69, sm_laws_markStringS N), (70, sm_laws_markClaimPartS N)]
def sg_laws_markClaimBook : Summ := sigOf [.sp [.ow 86 tFoe none, .ow 64 tSpot (some [9]), .ow 9 (.str) none, .ow 89 tPart (some [9, 75, 9, 9]), .dd tInt], .d tInt false] true [.d tInt false]
theorem run_laws_markClaimBook (N : Nat) (a0 : List ((List UInt8) × (List UInt8))) (a1 : List ((List UInt8) × ((Int) × ((Int) × ((Int) × (List Txt)))))) (a2 : List (List UInt8)) (a3 : List (((Int) × ((Int) × ((List Txt) × ((List ((List UInt8) × ((Int) × (Int)))) × ((List Txt) × (List Txt)))))) × (Bool))) (a4 : Int) (k0 : Int) : runST (ofDs [tInt, .slice tFoe, .slice tSpot, tTxts, .slice tPart]) (tabOf tabL) (tabS (phiL_laws_markClaimBook N)) inl0 N fi_laws_markClaimBook sg_laws_markClaimBook [⟨.slice tFoe, a0⟩, ⟨.slice tSpot, a1⟩, ⟨tTxts, a2⟩, ⟨.slice tPart, a3⟩, ⟨tInt, a4⟩, ⟨tInt, k0⟩] = F.laws_markClaimBook N a0 a1 a2 a3 a4 k0 := by kernel_rfl
def sm_laws_markClaimBook (N : Nat) : Summ := summOf [.sp [.ow 86 tFoe none, .ow 64 tSpot (some [9]), .ow 9 (.str) none, .ow 89 tPart (some [9, 75, 9, 9]), .dd tInt], .d tInt false] true [.d tInt false] [tInt, .slice tFoe, .slice tSpot, tTxts, .slice tPart] (F.laws_markClaimBook N)
theorem con_laws_markClaimBook (N : Nat) : Contract Try.prog 24 (sm_laws_markClaimBook N) := con_of (N := N) tabOK mixed (callOK_list (l := phiL_laws_markClaimBook N) (allc rfl (con_laws_markClaimFoeS N) (allc rfl (con_laws_markClaimSpotS N) (allc rfl (con_laws_markStringS N) (allc rfl (con_laws_markClaimPartS N) trivial))))) (inl0_ok _) ok_laws_markClaimBook (by decide) fun a0 a1 a2 a3 a4 k0 => run_laws_markClaimBook N a0 a1 a2 a3 a4 k0
def an_laws_markIntS : Nat → Option Ann
  | 0 => some ⟨{ fr := [(0, Dir.keep), (1, Dir.keep), (5, Dir.keep)], bx := [], os := [400000] }, [(0, { fr := [(1, Dir.keep)], bx := [], os := [400000] })], ⟨[], [], []⟩⟩
  | _ => none
noncomputable def fi_laws_markIntS : FI := ⟨Try.f25.results.toList, bodyOf Try.f25.body, Try.f25.ntmps, an_laws_markIntS⟩
theorem ok_laws_markIntS : FnOK Try.prog 25 fi_laws_markIntS := ⟨⟨Try.f25, Try.func25, by kernel_rfl, rfl, rfl, by kernel_rfl⟩, by kernel_rfl⟩
def phiL_laws_markIntS (N : Nat) : List (Nat × Summ) := []
def sg_laws_markIntS : Summ := sigOf [.ow 3 tInt none, .d tInt false] true [.d tInt false]
def S_laws_markIntS_0 (k1 : Int) (i5 : Int) (apa : List Int) : St := { fr := [(0, AV.w (V1.one (C.arr 400000))), (1, AV.w (V1.one (C.v tInt k1))), (5, AV.w (V1.one (C.v tInt i5)))], H := [(400000, Ob.arr 3 tInt apa)] }
noncomputable def E_laws_markIntS (N : Nat) : Env := envOf (tabOf tabL) (tabS (phiL_laws_markIntS N)) inl0 N fi_laws_markIntS [400000]
noncomputable def K_laws_markIntS := (kFun (tabOf tabL) fi_laws_markIntS.res (kT (ofDs [tInt, .slice tInt]) sg_laws_markIntS [(400000, .ow 3 tInt none)]))
noncomputable def its_laws_markIntS_0 (N : Nat) (n : Nat) : St → Option (Int × List Int) := fun S' => iter [400000] (annAt fi_laws_markIntS 0) (code (E_laws_markIntS N) (lpIn fi_laws_markIntS.body 0 0) 0) n S' (contOf (E_laws_markIntS N) fi_laws_markIntS.body 0 0 K_laws_markIntS)
noncomputable def it_laws_markIntS_0 (N : Nat) (n : Nat) : Int → Int → (List Int) → Option (Int × List Int) := fun k1 i5 apa => its_laws_markIntS_0 N n (S_laws_markIntS_0 k1 i5 apa)
theorem fe_laws_markIntS_0 (N : Nat) : it_laws_markIntS_0 N = laws_markIntS_0 N := funext (lp_all (by kernel_rfl) fun n => by
    show _ = laws_markIntS_0r N (it_laws_markIntS_0 N n)
    kernel_rfl)
theorem run_laws_markIntS (N : Nat) (a : List (Int)) (k0 : Int) : runST (ofDs [tInt, .slice tInt]) (tabOf tabL) (tabS (phiL_laws_markIntS N)) inl0 N fi_laws_markIntS sg_laws_markIntS [⟨.slice tInt, a⟩, ⟨tInt, k0⟩] = F.laws_markIntS N a k0 := by
    show _ = F.laws_markIntSb N (F.laws_markIntS_0 N) a k0
    rw [← fe_laws_markIntS_0 N]
    kernel_rfl
def sm_laws_markIntS (N : Nat) : Summ := summOf [.ow 3 tInt none, .d tInt false] true [.d tInt false] [tInt, .slice tInt] (F.laws_markIntS N)
theorem con_laws_markIntS (N : Nat) : Contract Try.prog 25 (sm_laws_markIntS N) := con_of (N := N) tabOK mixed (callOK_list (l := phiL_laws_markIntS N) trivial) (inl0_ok _) ok_laws_markIntS (by decide) fun a k0 => run_laws_markIntS N a k0
def an_laws_heldIntS : Nat → Option Ann
  | 0 => some ⟨{ fr := [(0, Dir.keep), (1, Dir.keep), (5, Dir.keep)], bx := [], os := [] }, [(0, { fr := [(1, Dir.keep)], bx := [], os := [] })], { fr := [(4, Dir.keep)], bx := [], os := [] }⟩
  | _ => none
noncomputable def fi_laws_heldIntS : FI := ⟨Try.f26.results.toList, bodyOf Try.f26.body, Try.f26.ntmps, an_laws_heldIntS⟩
theorem ok_laws_heldIntS : FnOK Try.prog 26 fi_laws_heldIntS := ⟨⟨Try.f26, Try.func26, by kernel_rfl, rfl, rfl, by kernel_rfl⟩, by kernel_rfl⟩
def phiL_laws_heldIntS (N : Nat) : List (Nat × Summ) := []
def sg_laws_heldIntS : Summ := sigOf [.d (.slice tInt) false, .d tInt false] false [.d tInt false]
def S_laws_heldIntS_0 (a : List Int) (k1 : Int) (i5 : Int) : St := { fr := [(0, AV.w (V1.one (C.v tInt.slice a))), (1, AV.w (V1.one (C.v tInt k1))), (5, AV.w (V1.one (C.v tInt i5)))], H := [] }
noncomputable def E_laws_heldIntS (N : Nat) : Env := envOf (tabOf tabL) (tabS (phiL_laws_heldIntS N)) inl0 N fi_laws_heldIntS []
noncomputable def K_laws_heldIntS := (kFun (tabOf tabL) fi_laws_heldIntS.res (kT (ofDs [tInt]) sg_laws_heldIntS []))
noncomputable def its_laws_heldIntS_0 (N : Nat) (n : Nat) : St → Option Int := fun S' => iter [] (annAt fi_laws_heldIntS 0) (code (E_laws_heldIntS N) (lpIn fi_laws_heldIntS.body 0 0) 0) n S' (contOf (E_laws_heldIntS N) fi_laws_heldIntS.body 0 0 K_laws_heldIntS)
noncomputable def it_laws_heldIntS_0 (N : Nat) (a : List Int) (n : Nat) : Int → Int → Option Int := fun k1 i5 => its_laws_heldIntS_0 N n (S_laws_heldIntS_0 a k1 i5)
theorem fe_laws_heldIntS_0 (N : Nat) : it_laws_heldIntS_0 N = laws_heldIntS_0 N := funext fun a => funext (lp_all (by kernel_rfl) fun n => by
    show _ = laws_heldIntS_0r N a (it_laws_heldIntS_0 N a n)
    kernel_rfl)
theorem run_laws_heldIntS (N : Nat) (a : List (Int)) (k0 : Int) : runST (ofDs [tInt]) (tabOf tabL) (tabS (phiL_laws_heldIntS N)) inl0 N fi_laws_heldIntS sg_laws_heldIntS [⟨.slice tInt, a⟩, ⟨tInt, k0⟩] = F.laws_heldIntS N a k0 := by
    show _ = F.laws_heldIntSb N (F.laws_heldIntS_0 N) a k0
    rw [← fe_laws_heldIntS_0 N]
    kernel_rfl
def sm_laws_heldIntS (N : Nat) : Summ := summOf [.d (.slice tInt) false, .d tInt false] false [.d tInt false] [tInt] (F.laws_heldIntS N)
theorem con_laws_heldIntS (N : Nat) : Contract Try.prog 26 (sm_laws_heldIntS N) := con_of (N := N) tabOK mixed (callOK_list (l := phiL_laws_heldIntS N) trivial) (inl0_ok _) ok_laws_heldIntS (by decide) fun a k0 => run_laws_heldIntS N a k0
def an_laws_FnExactClaimShut : Nat → Option Ann := fun _ => none
noncomputable def fi_laws_FnExactClaimShut : FI := ⟨Try.f7.results.toList, bodyOf Try.f7.body, Try.f7.ntmps, an_laws_FnExactClaimShut⟩
theorem ok_laws_FnExactClaimShut : FnOK Try.prog 7 fi_laws_FnExactClaimShut := ⟨⟨Try.f7, Try.func7, by kernel_rfl, rfl, rfl, by kernel_rfl⟩, by kernel_rfl⟩
def phiL_laws_FnExactClaimShut (N : Nat) : List (Nat × Summ) := [(14, sm_laws_szClaimBook N), (16, sm_laws_toClaimBook N), (21, sm_spec_ClaimShut N), (22, sm_impl_ClaimShut N), (23, sm_laws_eqIntS N), (18, sm_laws_eqClaimBook N), (24, sm_laws_markClaimBook N), (25, sm_laws_markIntS N), (26, sm_laws_heldIntS N)]
def sg_laws_FnExactClaimShut : Summ := sigOf [.d tBook true, .d (.str) false] false [.d (.bool) false]
theorem run_laws_FnExactClaimShut (N : Nat) (aB : (List ((List UInt8) × (List UInt8))) × ((List ((List UInt8) × ((Int) × ((Int) × ((Int) × (List Txt)))))) × ((List Txt) × ((List (((Int) × ((Int) × ((List Txt) × ((List ((List UInt8) × ((Int) × (Int)))) × ((List Txt) × (List Txt)))))) × (Bool))) × (Int))))) (aValve : List UInt8) : runST (ofDs [.bool]) (tabOf tabL) (tabS (phiL_laws_FnExactClaimShut N)) inl0 N fi_laws_FnExactClaimShut sg_laws_FnExactClaimShut [⟨tBook, aB⟩, ⟨.str, aValve⟩] = F.laws_FnExactClaimShut N aB aValve := by kernel_rfl
def sm_laws_FnExactClaimShut (N : Nat) : Summ := summOf [.d tBook true, .d (.str) false] false [.d (.bool) false] [.bool] (F.laws_FnExactClaimShut N)
theorem con_laws_FnExactClaimShut (N : Nat) : Contract Try.prog 7 (sm_laws_FnExactClaimShut N) := con_of (N := N) tabOK mixed (callOK_list (l := phiL_laws_FnExactClaimShut N) (allc rfl (con_laws_szClaimBook N) (allc rfl (con_laws_toClaimBook N) (allc rfl (con_spec_ClaimShut N) (allc rfl (con_impl_ClaimShut N) (allc rfl (con_laws_eqIntS N) (allc rfl (con_laws_eqClaimBook N) (allc rfl (con_laws_markClaimBook N) (allc rfl (con_laws_markIntS N) (allc rfl (con_laws_heldIntS N) trivial)))))))))) (inl0_ok _) ok_laws_FnExactClaimShut (by decide) fun aB aValve => run_laws_FnExactClaimShut N aB aValve
end
end Go.MC

/- Loops over lists, in plain Lean (general). -/
set_option linter.unusedVariables false
set_option linter.unusedSimpArgs false
namespace Go.MC

theorem lim_eq : lim = 140737488355328 := rfl
theorem wr {n : Int} (h1 : -9223372036854775808 ≤ n) (h2 : n ≤ 9223372036854775807) : IntKind.i64.wrap n = n := by
  rw [IntKind.wrap_i64]; omega
theorem wrS {i : Nat} (h : i ≤ 1000000000000000000) : IntKind.i64.wrap ((i : Int) + 1) = ((i + 1 : Nat) : Int) := by
  rw [wr (by omega) (by omega)]; omega
theorem wrP {i : Nat} (h : i ≤ 1000000000000000000) (h0 : 0 < i) : IntKind.i64.wrap ((i : Int) - 1) = ((i - 1 : Nat) : Int) := by
  rw [wr (by omega) (by omega)]; omega

theorem ob_eq {α ρ : Type} {o : Option α} {a d : α} {B : α → Option ρ} (h : o = some a) : ob o d B = B a := by rw [h]; rfl

theorem dlt {i n : Nat} (h : i < n) : decide ((i : Int) < (n : Int)) = true := decide_eq_true (by omega)
theorem dnlt (n : Nat) : decide ((n : Int) < (n : Int)) = false := decide_eq_false (by omega)
theorem dge (i : Nat) : decide ((0 : Int) ≤ (i : Int)) = true := decide_eq_true (by omega)
theorem gAt {α : Type} {l : List α} {i : Nat} (h : i < l.length) (d : α) : l.getD (Int.toNat (i : Int)) d = l[i] := by
  rw [Int.toNat_natCast, List.getD_eq_getElem?_getD, List.getElem?_eq_getElem h]; rfl
theorem gAt' {α : Type} {l : List α} {i : Nat} (d : α) : l.getD (Int.toNat (i : Int)) d = l.getD i d := by
  rw [Int.toNat_natCast]
/-- 'i > 0', and what stands ahead of it. -/
theorem dgt0 (i : Nat) : decide ((i : Int) > 0) = !(i == 0) := by
  cases i <;> simp

/-- Every element, with its place. -/
def allI {α : Type} (p : Nat → α → Bool) : Nat → List α → Bool
  | _, [] => true
  | i, x :: xs => p i x && allI p (i + 1) xs

theorem allI_congr {α : Type} {p q : Nat → α → Bool} : ∀ {l : List α} {i : Nat}, (∀ j x, l[j]? = some x → p (i + j) x = q (i + j) x) → allI p i l = allI q i l
  | [], _, _ => rfl
  | x :: xs, i, h => by
    simp only [allI]
    have h2 := allI_congr (p := p) (q := q) (l := xs) (i := i + 1) fun j y hj => by
      have := h (j + 1) y (by simpa using hj)
      rwa [show i + (j + 1) = i + 1 + j by omega] at this
    rw [show p i x = q i x from h 0 x rfl, h2]
theorem allI_iff {α : Type} {p : Nat → α → Bool} : ∀ {l : List α} {i : Nat}, allI p i l = true ↔ ∀ j x, l[j]? = some x → p (i + j) x = true
  | [], i => by simp [allI]
  | x :: xs, i => by
    simp only [allI, Bool.and_eq_true, allI_iff (l := xs)]
    constructor
    · rintro ⟨h1, h2⟩ j y hj
      cases j with
      | zero => simp at hj; subst hj; exact h1
      | succ j =>
        have := h2 j y (by simpa using hj)
        rwa [show i + 1 + j = i + (j + 1) by omega] at this
    · intro h
      refine ⟨h 0 x rfl, fun j y hj => ?_⟩
      have := h (j + 1) y (by simpa using hj)
      rwa [show i + (j + 1) = i + 1 + j by omega] at this
theorem allI_all {α : Type} {p : α → Bool} : ∀ {l : List α} {i : Nat}, allI (fun _ x => p x) i l = l.all p
  | [], _ => rfl
  | x :: xs, i => by simp only [allI, List.all_cons, allI_all]

/-- On with a state, or out. -/
def outW {σ ρ : Type} (fin : σ → Option ρ) : σ ⊕ Option ρ → Option ρ
  | .inl s => fin s
  | .inr r => r

/-- A loop over a list with a state; 'ap' hands the place and the state to the loop's function. -/
theorem lp_walk {α σ ρ F : Type} (l : List α) (ap : F → Nat → σ → Option ρ) (z : F) (rd : F → F) (f : Nat → σ → α → σ ⊕ Option ρ) (fin : σ → Option ρ) (Inv : Nat → σ → Prop)
    (hstep : ∀ (g : F) (i : Nat) (st : σ) (h : i < l.length), Inv i st → ap (rd g) i st = outW (fun st' => ap g (i + 1) st') (f i st l[i]) ∧ ∀ st', f i st l[i] = .inl st' → Inv (i + 1) st')
    (hend : ∀ (g : F) (st : σ), Inv l.length st → ap (rd g) l.length st = fin st) (N : Nat) (hN : l.length < N) (st : σ) (h0 : Inv 0 st) :
    ap (lp z rd N) 0 st = outW fin (walkL f 0 l st) := by
  suffices H : ∀ (m i n : Nat) (st : σ), l.length - i = m → i ≤ l.length → m < n → Inv i st → ap (lp z rd n) i st = outW fin (walkL f i (l.drop i) st) by
    have := H l.length 0 N st (by omega) (by omega) hN h0
    rwa [List.drop_zero] at this
  intro m
  induction m with
  | zero =>
    intro i n st h1 h2 h3 h4
    obtain ⟨n, rfl⟩ : ∃ j, n = j + 1 := ⟨n - 1, by omega⟩
    have hi : i = l.length := by omega
    subst hi
    rw [List.drop_length]
    exact hend _ st h4
  | succ m ih =>
    intro i n st h1 h2 h3 h4
    obtain ⟨n, rfl⟩ : ∃ j, n = j + 1 := ⟨n - 1, by omega⟩
    have hlt : i < l.length := by omega
    obtain ⟨h5, h6⟩ := hstep (lp z rd n) i st hlt h4
    rw [List.drop_eq_getElem_cons hlt]
    simp only [walkL]
    refine h5.trans ?_
    cases hf : f i st l[i] with
    | inl st' => exact ih (i + 1) n st' (by omega) (by omega) (by omega) (h6 st' hf)
    | inr r => rfl

/-- A loop that goes on as long as p holds. -/
theorem lp_allI {α ρ : Type} (l : List α) (rd : (Int → Option ρ) → Int → Option ρ) (p : Nat → α → Bool) (r fin : Option ρ)
    (hstep : ∀ (g : Int → Option ρ) (i : Nat) (h : i < l.length), rd g (i : Int) = bif p i l[i] then g ((i + 1 : Nat) : Int) else r)
    (hend : ∀ (g : Int → Option ρ), rd g (l.length : Int) = fin) (N : Nat) (hN : l.length < N) : lp (fun _ => none) rd N 0 = bif allI p 0 l then fin else r := by
  have := lp_walk l (fun (g : Int → Option ρ) i (_ : Unit) => g (i : Int)) (fun _ => none) rd (fun i _ x => bif p i x then .inl () else .inr r) (fun _ => fin) (fun _ _ => True)
    (fun g i st h _ => ⟨by
      rw [hstep g i h]
      cases p i l[i] <;> rfl, fun _ _ => trivial⟩) (fun g _ _ => hend g) N hN () trivial
  refine this.trans ?_
  have : ∀ (l : List α) i, outW (fun _ => fin) (walkL (fun i (_ : Unit) x => bif p i x then Sum.inl () else Sum.inr r) i l ()) = bif allI p i l then fin else r := by
    intro l
    induction l with
    | nil => intro i; rfl
    | cons x xs ih =>
      intro i
      simp only [walkL, allI]
      cases p i x with
      | true => simpa using ih (i + 1)
      | false => rfl
  exact this l 0

/-- A loop that fills a row. -/
theorem lp_set {α β : Type} {l : List α} {rd : (Int → List β → Option (List β)) → Int → List β → Option (List β)} (g : α → β)
    (hstep : ∀ (f : Int → List β → Option (List β)) (i : Nat) (out : List β) (h : i < l.length), out.length = l.length → rd f (i : Int) out = f ((i + 1 : Nat) : Int) (out.set i (g l[i])))
    (hend : ∀ (f : Int → List β → Option (List β)) (out : List β), rd f (l.length : Int) out = some out) {N : Nat} (hN : l.length < N) {out : List β} (ho : out.length = l.length) : lp (fun _ _ => none) rd N 0 out = some (l.map g) := by
  suffices H : ∀ (m i n : Nat) (out : List β), l.length - i = m → i ≤ l.length → m < n → out.length = l.length → lp (fun _ _ => none) rd n (i : Int) out = some (out.take i ++ (l.drop i).map g) by
    have := H l.length 0 N out (by omega) (by omega) hN ho
    simpa using this
  intro m
  induction m with
  | zero =>
    intro i n out h1 h2 h3 h4
    obtain ⟨n, rfl⟩ : ∃ j, n = j + 1 := ⟨n - 1, by omega⟩
    have hi : i = l.length := by omega
    subst hi
    refine (hend _ out).trans ?_
    rw [List.drop_length, List.take_of_length_le (by omega)]
    simp
  | succ m ih =>
    intro i n out h1 h2 h3 h4
    obtain ⟨n, rfl⟩ : ∃ j, n = j + 1 := ⟨n - 1, by omega⟩
    have hlt : i < l.length := by omega
    refine (hstep _ i out hlt h4).trans ((ih (i + 1) n _ (by omega) (by omega) (by omega) (by simpa using h4)).trans ?_)
    congr 1
    rw [List.take_add_one]
    have h5 : i < out.length := by omega
    have h6 : (out.set i (g l[i])).take i = out.take i := by
      rw [List.take_set]
      exact List.set_eq_of_length_le (by simp; omega)
    rw [h6, List.drop_eq_getElem_cons hlt]
    simp only [List.getElem?_set_self h5, List.map_cons, Option.toList_some, List.append_assoc, List.singleton_append]

end Go.MC

/- What the functions that ClaimWantOk reaches tell, in short words. -/
set_option linter.unusedVariables false
set_option linter.unusedSimpArgs false
namespace Go.MC
open Go.MC.F

/-! Sizes -/
def smT (s : Txt) : Prop := s.length ≤ 1048576
def smL (l : List Txt) : Prop := l.length ≤ 1048576 ∧ ∀ x ∈ l, smT x
def smU (u : Use) : Prop := smT u.1
def smW (w : Want) : Prop := smL w.2.2.1 ∧ (w.2.2.2.1.length ≤ 1048576 ∧ ∀ u ∈ w.2.2.2.1, smU u) ∧ smL w.2.2.2.2.1 ∧ smL w.2.2.2.2.2

/-- A loop that counts down what is left. -/
theorem sz_loop {α : Type} (l : List α) (hl : l.length ≤ lim) (e : α → Int → Int) (P : α → Prop) (rd : (Int → Int → Option Int) → Int → Int → Option Int)
    (he : ∀ x ∈ l, ∀ st : Int, 0 ≤ st → st ≤ 1048576 → e x st ≤ st ∧ -1 ≤ e x st ∧ (0 ≤ e x st → P x))
    (hstep : ∀ (g : Int → Int → Option Int) (i : Nat) (st : Int) (h : i < l.length), 0 ≤ st → st ≤ 1048576 → rd g st (i : Int) = if e l[i] st < 0 then some (-1) else g (e l[i] st) ((i + 1 : Nat) : Int))
    (hend : ∀ (g : Int → Int → Option Int) (st : Int), rd g st (l.length : Int) = some st) (N : Nat) (hN : l.length < N) (left : Int) (h0 : 0 ≤ left) (h1 : left ≤ 1048576) :
    ∃ r, lp (fun _ _ => none) rd N left 0 = some r ∧ r ≤ left ∧ -1 ≤ r ∧ (0 ≤ r → ∀ x ∈ l, P x) := by
  have h := lp_walk l (fun (g : Int → Int → Option Int) i (st : Int) => g st (i : Int)) (fun _ _ => none) rd (fun _ st x => if e x st < 0 then .inr (some (-1)) else .inl (e x st)) (fun st => some st) (fun _ st => 0 ≤ st ∧ st ≤ 1048576)
    (fun g i st h hi => ⟨by
      rw [hstep g i st h hi.1 hi.2]
      split <;> rfl, fun st' hs => by
      split at hs
      · cases hs
      · cases hs
        have := he _ (List.getElem_mem h) st hi.1 hi.2
        omega⟩) (fun g st _ => hend g st) N hN left ⟨h0, h1⟩
  have h : lp (fun _ _ => none) rd N left 0 = _ := h
  rw [h]
  clear h hstep hend
  suffices H : ∀ (l : List α) (i : Nat) (st : Int), (∀ x ∈ l, ∀ st : Int, 0 ≤ st → st ≤ 1048576 → e x st ≤ st ∧ -1 ≤ e x st ∧ (0 ≤ e x st → P x)) → 0 ≤ st → st ≤ 1048576 →
      ∃ r, outW (fun st => some st) (walkL (fun (_ : Nat) st x => if e x st < 0 then Sum.inr (some (-1)) else Sum.inl (e x st)) i l st) = some r ∧ r ≤ st ∧ -1 ≤ r ∧ (0 ≤ r → ∀ x ∈ l, P x) from H l 0 left he h0 h1
  intro l
  induction l with
  | nil => exact fun i st _ h0 h1 => ⟨st, rfl, by omega, by omega, fun _ x hx => by simp at hx⟩
  | cons x xs ih =>
    intro i st he h0 h1
    have hx := he x (by simp) st h0 h1
    simp only [walkL]
    by_cases hneg : e x st < 0
    · rw [if_pos hneg]
      exact ⟨-1, rfl, by omega, by omega, fun h => by omega⟩
    · rw [if_neg hneg]
      obtain ⟨r, h2, h3, h4, h5⟩ := ih (i + 1) (e x st) (fun y hy => he y (by simp [hy])) (by omega) (by omega)
      exact ⟨r, h2, by omega, h4, fun hr y hy => by
        rcases List.mem_cons.1 hy with rfl | hy
        · exact hx.2.2 (by omega)
        · exact h5 hr y hy⟩

theorem szStringS {N : Nat} (hN : lim < N) {a : List Txt} (ha : a.length ≤ lim) (hx : ∀ x ∈ a, x.length ≤ lim) {left : Int} (h0 : 0 ≤ left) (h1 : left ≤ 1048576) :
    ∃ r, laws_szStringS N a left = some r ∧ r ≤ left ∧ -1 ≤ r ∧ (0 ≤ r → smL a) := by
  have hlim := lim_eq
  unfold laws_szStringS laws_szStringSb
  rw [wr (n := left - a.length) (by omega) (by omega)]
  by_cases hneg : left - (a.length : Int) < 0
  · rw [decide_eq_true hneg]
    exact ⟨-1, rfl, by omega, by omega, fun h => by omega⟩
  · rw [decide_eq_false hneg]
    obtain ⟨r, h2, h3, h4, h5⟩ := sz_loop a ha (fun x st => if st < x.length then -1 else st - x.length) (fun x => smT x) (laws_szStringS_0r N a) (fun x hm st h0 h1 => by
      unfold smT
      split <;> omega) (fun g i st h h0 h1 => by
        have := hx _ (List.getElem_mem h)
        unfold laws_szStringS_0r
        simp only [dlt h, dge, gAt h, cond_true, wrS (show i ≤ 1000000000000000000 by omega)]
        rw [wr (by omega) (by omega)]
        by_cases hn : st - (a[i].length : Int) < 0
        · rw [decide_eq_true hn, if_pos (by rw [if_pos (by omega)]; omega)]; rfl
        · rw [decide_eq_false hn, if_neg (by rw [if_neg (by omega)]; omega), if_neg (by omega)]; rfl) (fun g st => by
        unfold laws_szStringS_0r
        rw [dnlt]; rfl) N (by omega) (left - a.length) (by omega) (by omega)
    exact ⟨r, h2, by omega, h4, fun h => ⟨by omega, h5 h⟩⟩
theorem szClaimUse {N : Nat} {u : Use} (hx : u.1.length ≤ lim) {left : Int} (h0 : 0 ≤ left) (h1 : left ≤ 1048576) :
    laws_szClaimUse N u left = some (if left < u.1.length then -1 else left - u.1.length) := by
  have hlim := lim_eq
  unfold laws_szClaimUse
  rw [wr (by omega) (by omega)]
  by_cases hn : left - (u.1.length : Int) < 0
  · rw [decide_eq_true hn, if_pos (by omega)]; rfl
  · rw [decide_eq_false hn, if_neg (by omega)]; rfl

theorem szClaimUseS {N : Nat} (hN : lim < N) {a : List Use} (ha : a.length ≤ lim) (hx : ∀ x ∈ a, x.1.length ≤ lim) {left : Int} (h0 : 0 ≤ left) (h1 : left ≤ 1048576) :
    ∃ r, laws_szClaimUseS N a left = some r ∧ r ≤ left ∧ -1 ≤ r ∧ (0 ≤ r → a.length ≤ 1048576 ∧ ∀ u ∈ a, smU u) := by
  have hlim := lim_eq
  unfold laws_szClaimUseS laws_szClaimUseSb
  rw [wr (n := left - a.length) (by omega) (by omega)]
  by_cases hneg : left - (a.length : Int) < 0
  · rw [decide_eq_true hneg]
    exact ⟨-1, rfl, by omega, by omega, fun h => by omega⟩
  · rw [decide_eq_false hneg]
    obtain ⟨r, h2, h3, h4, h5⟩ := sz_loop a ha (fun x st => if st < x.1.length then -1 else st - x.1.length) (fun x => smU x) (laws_szClaimUseS_0r N a) (fun x hm st h0 h1 => by
      unfold smU smT
      split <;> omega) (fun g i st h h0 h1 => by
        have := hx _ (List.getElem_mem h)
        unfold laws_szClaimUseS_0r
        simp only [dlt h, dge, gAt h, cond_true, wrS (show i ≤ 1000000000000000000 by omega)]
        rw [ob_eq (szClaimUse this h0 h1)]
        by_cases hn : (if st < (a[i].1.length : Int) then -1 else st - (a[i].1.length : Int)) < 0
        · rw [decide_eq_true hn, if_pos hn]; rfl
        · rw [decide_eq_false hn, if_neg hn]; rfl) (fun g st => by
        unfold laws_szClaimUseS_0r
        rw [dnlt]; rfl) N (by omega) (left - a.length) (by omega) (by omega)
    exact ⟨r, h2, by omega, h4, fun h => ⟨by omega, h5 h⟩⟩

theorem szNext {o : Option Int} {left : Int} {A B : Prop} (h0 : 0 ≤ left) (h1 : left ≤ 1048576) (h : ∃ r, o = some r ∧ r ≤ left ∧ -1 ≤ r ∧ (0 ≤ r → A)) {B' : Int → Option Int} (hB : ∀ r, 0 ≤ r → r ≤ 1048576 → ∃ q, B' r = some q ∧ q ≤ r ∧ -1 ≤ q ∧ (0 ≤ q → B)) :
    ∃ r, (ob o (Int.ofNat 0) fun r => bif decide (r < 0) then some (-1) else B' r) = some r ∧ r ≤ left ∧ -1 ≤ r ∧ (0 ≤ r → A ∧ B) := by
  obtain ⟨r, rfl, h2, h3, h4⟩ := h
  rw [ob_eq rfl]
  by_cases hn : r < 0
  · rw [decide_eq_true hn]
    exact ⟨-1, rfl, by omega, by omega, fun h => by omega⟩
  · rw [decide_eq_false hn]
    obtain ⟨q, h5, h6, h7, h8⟩ := hB r (by omega) (by omega)
    exact ⟨q, h5, by omega, h7, fun h => ⟨h4 (by omega), h8 h⟩⟩
theorem szLast {o : Option Int} {left : Int} {A : Prop} (h : ∃ r, o = some r ∧ r ≤ left ∧ -1 ≤ r ∧ (0 ≤ r → A)) :
    ∃ r, (ob o (Int.ofNat 0) fun r => bif decide (r < 0) then some (-1) else some r) = some r ∧ r ≤ left ∧ -1 ≤ r ∧ (0 ≤ r → A) := by
  obtain ⟨r, rfl, h2, h3, h4⟩ := h
  rw [ob_eq rfl]
  by_cases hn : r < 0
  · rw [decide_eq_true hn]
    exact ⟨-1, rfl, by omega, by omega, fun h => by omega⟩
  · rw [decide_eq_false hn]
    exact ⟨r, rfl, h2, h3, h4⟩

/-- What fits. -/
def fitW (w : Want) : Prop := (w.2.2.1.length ≤ lim ∧ ∀ x ∈ w.2.2.1, x.length ≤ lim) ∧ (w.2.2.2.1.length ≤ lim ∧ ∀ u ∈ w.2.2.2.1, u.1.length ≤ lim) ∧ (w.2.2.2.2.1.length ≤ lim ∧ ∀ x ∈ w.2.2.2.2.1, x.length ≤ lim) ∧ (w.2.2.2.2.2.length ≤ lim ∧ ∀ x ∈ w.2.2.2.2.2, x.length ≤ lim)

theorem szClaimWant {N : Nat} (hN : lim < N) {w : Want} (hw : fitW w) {left : Int} (h0 : 0 ≤ left) (h1 : left ≤ 1048576) :
    ∃ r, laws_szClaimWant N w left = some r ∧ r ≤ left ∧ -1 ≤ r ∧ (0 ≤ r → smW w) := by
  obtain ⟨⟨a1, a2⟩, ⟨b1, b2⟩, ⟨c1, c2⟩, ⟨d1, d2⟩⟩ := hw
  exact szNext h0 h1 (szStringS hN a1 a2 h0 h1) fun r h0 h1 => szNext h0 h1 (szClaimUseS hN b1 b2 h0 h1) fun r h0 h1 => szNext h0 h1 (szStringS hN c1 c2 h0 h1) fun r h0 h1 => szLast (szStringS hN d1 d2 h0 h1)

/-! Copies -/
theorem toStringS {N : Nat} (hN : lim < N) {a : List Txt} (h : a.length ≤ 1048576) : laws_toStringS N a = some a := by
  have hlim := lim_eq
  unfold laws_toStringS laws_toStringSb
  have h1 : (decide (((a.length : Nat) : Int).toNat * 16 ≤ lim) && (Nat.ble 1 16 && true)) = true := by
    rw [decide_eq_true (by rw [Int.toNat_natCast]; omega)]; rfl
  simp only [h1, cond_true, decide_true]
  refine (lp_set (l := a) (fun x => x) (fun f i out hi ho => ?_) (fun f out => ?_) (by omega) (by simp)).trans (by simp)
  · unfold laws_toStringS_0r
    simp only [dlt hi, dge, gAt hi, cond_true, wrS (show i ≤ 1000000000000000000 by omega), dlt (show i < out.length by omega)]
    rfl
  · unfold laws_toStringS_0r
    rw [dnlt]; rfl

theorem toClaimUseS {N : Nat} (hN : lim < N) {a : List Use} (h : a.length ≤ 1048576) : laws_toClaimUseS N a = some a := by
  have hlim := lim_eq
  unfold laws_toClaimUseS laws_toClaimUseSb
  have h1 : (decide (((a.length : Nat) : Int).toNat * 32 ≤ lim) && (Nat.ble 1 32 && true)) = true := by
    rw [decide_eq_true (by rw [Int.toNat_natCast]; omega)]; rfl
  simp only [h1, cond_true, decide_true]
  refine (lp_set (l := a) (fun x => x) (fun f i out hi ho => ?_) (fun f out => ?_) (by omega) (by simp)).trans (by simp)
  · unfold laws_toClaimUseS_0r
    simp only [dlt hi, dge, gAt hi, cond_true, wrS (show i ≤ 1000000000000000000 by omega), dlt (show i < out.length by omega)]
    rw [ob_eq (show laws_toClaimUse N a[i] = some a[i] from rfl)]
    rfl
  · unfold laws_toClaimUseS_0r
    rw [dnlt]; rfl

theorem toClaimWant {N : Nat} (hN : lim < N) {w : Want} (h : smW w) : laws_toClaimWant N w = some w := by
  obtain ⟨h1, h2, h3, h4⟩ := h
  unfold laws_toClaimWant
  rw [ob_eq (toStringS hN h1.1), ob_eq (toClaimUseS hN h2.1), ob_eq (toStringS hN h3.1), ob_eq (toStringS hN h4.1)]

/-! The same is the same -/
theorem ne_self_i (n : Int) : (n != n) = false := by simp
theorem eqStringS {N : Nat} (hN : lim < N) {a : List Txt} (h : a.length ≤ 1048576) : laws_eqStringS N a a = some true := by
  have hlim := lim_eq
  unfold laws_eqStringS laws_eqStringSb
  simp only [bne_self_eq_false, cond_false]
  refine (lp_allI a _ (fun _ _ => true) (some false) (some true) (fun g i hi => ?_) (fun g => ?_) N (by omega)).trans ?_
  · unfold laws_eqStringS_0r
    simp only [dlt hi, dge, gAt hi, cond_true, wrS (show i ≤ 1000000000000000000 by omega), beq_self_eq_true, Bool.not_true, cond_false]
  · unfold laws_eqStringS_0r
    rw [dnlt]; rfl
  · rw [show allI (fun _ (_ : Txt) => true) 0 a = true from allI_iff.2 fun _ _ _ => rfl]; rfl
theorem eqClaimUse {N : Nat} (u : Use) : laws_eqClaimUse N u u = some true := by
  unfold laws_eqClaimUse
  simp
theorem eqClaimUseS {N : Nat} (hN : lim < N) {a : List Use} (h : a.length ≤ 1048576) : laws_eqClaimUseS N a a = some true := by
  have hlim := lim_eq
  unfold laws_eqClaimUseS laws_eqClaimUseSb
  simp only [bne_self_eq_false, cond_false]
  refine (lp_allI a _ (fun _ _ => true) (some false) (some true) (fun g i hi => ?_) (fun g => ?_) N (by omega)).trans ?_
  · unfold laws_eqClaimUseS_0r
    simp only [dlt hi, dge, gAt hi, cond_true, wrS (show i ≤ 1000000000000000000 by omega)]
    rw [ob_eq (eqClaimUse _)]; rfl
  · unfold laws_eqClaimUseS_0r
    rw [dnlt]; rfl
  · rw [show allI (fun _ (_ : Use) => true) 0 a = true from allI_iff.2 fun _ _ _ => rfl]; rfl
theorem eqClaimWant {N : Nat} (hN : lim < N) {w : Want} (h : smW w) : laws_eqClaimWant N w w = some true := by
  obtain ⟨h1, h2, h3, h4⟩ := h
  unfold laws_eqClaimWant
  simp only [bne_self_eq_false, cond_false]
  rw [ob_eq (eqStringS hN h1.1)]
  simp only [Bool.not_true, cond_false]
  rw [ob_eq (eqClaimUseS hN h2.1)]
  simp only [Bool.not_true, cond_false]
  rw [ob_eq (eqStringS hN h3.1)]
  simp only [Bool.not_true, cond_false]
  rw [ob_eq (eqStringS hN h4.1)]
  simp only [Bool.not_true, cond_false]

/-! Names -/
def inB (n lo hi : Int) : Bool := decide (n ≥ lo) && decide (n ≤ hi)
theorem l1In {N : Nat} (n lo hi : Int) : spec_l1In N n lo hi = some (inB n lo hi) := by
  unfold spec_l1In inB
  cases decide (n ≥ lo) <;> rfl
theorem implIn {N : Nat} (n lo hi : Int) : impl_in N n lo hi = some (inB n lo hi) := by
  unfold impl_in inB
  cases decide (n ≥ lo) <;> rfl

def nmB (b : UInt8) : Bool := (decide ((b.toNat : Int) ≥ 97) && decide ((b.toNat : Int) ≤ 122)) || ((decide ((b.toNat : Int) ≥ 48) && decide ((b.toNat : Int) ≤ 57)) || ((b.toNat : Int) == 45))
def nmOk (s : Txt) : Bool := inB s.length 1 8 && s.all nmB

theorem l1NameOk {N : Nat} (hN : lim < N) (s : Txt) : spec_l1NameOk N s = some (nmOk s) := by
  have hlim := lim_eq
  unfold spec_l1NameOk spec_l1NameOkb nmOk
  rw [ob_eq (l1In _ _ _)]
  cases hb : inB s.length 1 8 with
  | false => rfl
  | true =>
    have hl : s.length ≤ 8 := by
      simp only [inB, Bool.and_eq_true, decide_eq_true_eq] at hb
      omega
    refine (lp_allI s _ (fun _ x => nmB x) (some false) (some true) (fun g i hi => ?_) (fun g => ?_) N (by omega)).trans ?_
    · unfold spec_l1NameOk_0r
      simp only [dlt hi, dge, gAt hi, cond_true, wrS (show i ≤ 1000000000000000000 by omega), nmB]
      generalize decide ((s[i].toNat : Int) ≥ 97) = a1
      generalize decide ((s[i].toNat : Int) ≤ 122) = a2
      generalize decide ((s[i].toNat : Int) ≥ 48) = a3
      generalize decide ((s[i].toNat : Int) ≤ 57) = a4
      generalize ((s[i].toNat : Int) == 45) = a5
      cases a1 <;> cases a2 <;> cases a3 <;> cases a4 <;> cases a5 <;> rfl
    · unfold spec_l1NameOk_0r
      rw [dnlt]; rfl
    · rw [allI_all]
      cases s.all nmB <;> rfl
theorem implName {N : Nat} (hN : lim < N) (s : Txt) : impl_name N s = some (nmOk s) := by
  have hlim := lim_eq
  unfold impl_name impl_nameb nmOk
  rw [ob_eq (implIn _ _ _)]
  cases hb : inB s.length 1 8 with
  | false => rfl
  | true =>
    have hl : s.length ≤ 8 := by
      simp only [inB, Bool.and_eq_true, decide_eq_true_eq] at hb
      omega
    refine (lp_allI s _ (fun _ x => nmB x) (some false) (some true) (fun g i hi => ?_) (fun g => ?_) N (by omega)).trans ?_
    · unfold impl_name_0r
      simp only [dlt hi, dge, gAt hi, cond_true, wrS (show i ≤ 1000000000000000000 by omega), nmB]
      generalize decide ((s[i].toNat : Int) ≥ 97) = a1
      generalize decide ((s[i].toNat : Int) ≤ 122) = a2
      generalize decide ((s[i].toNat : Int) ≥ 48) = a3
      generalize decide ((s[i].toNat : Int) ≤ 57) = a4
      generalize ((s[i].toNat : Int) == 45) = a5
      cases a1 <;> cases a2 <;> cases a3 <;> cases a4 <;> cases a5 <;> rfl
    · unfold impl_name_0r
      rw [dnlt]; rfl
    · rw [allI_all]
      cases s.all nmB <;> rfl

/-- Ascending names, not too many. -/
def ascI (l : List Txt) (i : Nat) (x : Txt) : Bool := i == 0 || Op.bytesLess (l.getD (i - 1) []) x
def nmsOk (l : List Txt) (most : Int) : Bool := !decide ((l.length : Int) > most) && allI (fun i x => nmOk x && ascI l i x) 0 l

theorem l1NamesOk {N : Nat} (hN : lim < N) {l : List Txt} (hl : l.length ≤ lim) (most : Int) : spec_l1NamesOk N l most = some (nmsOk l most) := by
  have hlim := lim_eq
  unfold spec_l1NamesOk spec_l1NamesOkb nmsOk
  cases hb : decide ((l.length : Int) > most) with
  | true => rfl
  | false =>
    refine (lp_allI l _ (fun i x => nmOk x && ascI l i x) (some false) (some true) (fun g i hi => ?_) (fun g => ?_) N (by omega)).trans ?_
    · unfold spec_l1NamesOk_0r ascI
      simp only [dlt hi, dge, gAt hi, cond_true, wrS (show i ≤ 1000000000000000000 by omega), dgt0]
      rw [ob_eq (l1NameOk hN _)]
      cases nmOk l[i] with
      | false => rfl
      | true =>
        cases h0 : i == 0 with
        | true => simp
        | false =>
          have h0' : 0 < i := by simp at h0; omega
          simp only [Bool.not_true, Bool.not_false, cond_true, cond_false, wrP (show i ≤ 1000000000000000000 by omega) h0', dge, dlt (show i - 1 < l.length by omega), gAt', Bool.false_or, Bool.true_and]
          cases Op.bytesLess (l.getD (i - 1) []) l[i] <;> rfl
    · unfold spec_l1NamesOk_0r
      rw [dnlt]; rfl
    · cases allI (fun i x => nmOk x && ascI l i x) 0 l <;> rfl
theorem implNames {N : Nat} (hN : lim < N) {l : List Txt} (hl : l.length ≤ lim) (most : Int) : impl_names N l most = some (nmsOk l most) := by
  have hlim := lim_eq
  unfold impl_names impl_namesb nmsOk
  cases hb : decide ((l.length : Int) > most) with
  | true => rfl
  | false =>
    refine (lp_allI l _ (fun i x => nmOk x && ascI l i x) (some false) (some true) (fun g i hi => ?_) (fun g => ?_) N (by omega)).trans ?_
    · unfold impl_names_0r ascI
      simp only [dlt hi, dge, gAt hi, cond_true, wrS (show i ≤ 1000000000000000000 by omega), dgt0]
      rw [ob_eq (implName hN _)]
      cases nmOk l[i] with
      | false => rfl
      | true =>
        cases h0 : i == 0 with
        | true => simp
        | false =>
          have h0' : 0 < i := by simp at h0; omega
          simp only [Bool.not_true, Bool.not_false, cond_true, cond_false, wrP (show i ≤ 1000000000000000000 by omega) h0', dge, dlt (show i - 1 < l.length by omega), gAt', Bool.false_or, Bool.true_and]
          cases Op.bytesLess (l.getD (i - 1) []) l[i] <;> rfl
    · unfold impl_names_0r
      rw [dnlt]; rfl
    · cases allI (fun i x => nmOk x && ascI l i x) 0 l <;> rfl

/-! Lists of names -/
theorem l1Has {N : Nat} (hN : lim < N) {l : List Txt} (hl : l.length ≤ lim) (s : Txt) : spec_l1Has N l s = some (l.contains s) := by
  have hlim := lim_eq
  unfold spec_l1Has spec_l1Hasb
  refine (lp_allI l _ (fun _ x => !(x == s)) (some true) (some false) (fun g i hi => ?_) (fun g => ?_) N (by omega)).trans ?_
  · unfold spec_l1Has_0r
    simp only [dlt hi, dge, gAt hi, cond_true, wrS (show i ≤ 1000000000000000000 by omega)]
    cases l[i] == s <;> rfl
  · unfold spec_l1Has_0r
    rw [dnlt]; rfl
  · rw [allI_all, List.contains_eq_any_beq]
    have : l.all (fun x => !(x == s)) = !(l.any fun a => s == a) := by
      rw [List.not_any_eq_all_not]
      congr 1; funext x
      rw [Bool.beq_comm]
    rw [this]
    cases l.any fun a => s == a <;> rfl
theorem l1Share {N : Nat} (hN : lim < N) {a b : List Txt} (ha : a.length ≤ lim) (hb : b.length ≤ lim) : spec_l1Share N a b = some (a.any fun x => b.contains x) := by
  have hlim := lim_eq
  unfold spec_l1Share spec_l1Shareb
  refine (lp_allI a _ (fun _ x => !(b.contains x)) (some true) (some false) (fun g i hi => ?_) (fun g => ?_) N (by omega)).trans ?_
  · unfold spec_l1Share_0r
    simp only [dlt hi, dge, gAt hi, cond_true, wrS (show i ≤ 1000000000000000000 by omega)]
    rw [ob_eq (l1Has hN hb _)]
    cases b.contains a[i] <;> rfl
  · unfold spec_l1Share_0r
    rw [dnlt]; rfl
  · rw [allI_all]
    have : a.all (fun x => !(b.contains x)) = !(a.any fun x => b.contains x) := by rw [List.not_any_eq_all_not]
    rw [this]
    cases a.any fun x => b.contains x <;> rfl

/-- Where it first stands, -1 if nowhere. -/
def idxB {α : Type} (p : α → Bool) : Nat → List α → Int
  | _, [] => -1
  | i, x :: xs => bif p x then (i : Int) else idxB p (i + 1) xs
theorem idxB_nonneg {α : Type} (p : α → Bool) : ∀ (l : List α) (i : Nat), decide (idxB p i l ≥ 0) = l.any p
  | [], _ => rfl
  | x :: xs, i => by
    simp only [idxB, List.any_cons]
    by_cases h : p x = true
    · simp [h]
    · simpa [h] using idxB_nonneg p xs (i + 1)
/-- A loop that looks for the first that fits. -/
theorem lp_idx {α : Type} (l : List α) (rd : (Int → Option Int) → Int → Option Int) (p : α → Bool)
    (hstep : ∀ (g : Int → Option Int) (i : Nat) (h : i < l.length), rd g (i : Int) = bif p l[i] then some (i : Int) else g ((i + 1 : Nat) : Int))
    (hend : ∀ (g : Int → Option Int), rd g (l.length : Int) = some (-1)) (N : Nat) (hN : l.length < N) : lp (fun _ => none) rd N 0 = some (idxB p 0 l) := by
  have := lp_walk l (fun (g : Int → Option Int) i (_ : Unit) => g (i : Int)) (fun _ => none) rd (fun i _ x => bif p x then .inr (some (i : Int)) else .inl ()) (fun _ => some (-1)) (fun _ _ => True)
    (fun g i st h _ => ⟨by
      rw [hstep g i h]
      cases p l[i] <;> rfl, fun _ _ => trivial⟩) (fun g _ _ => hend g) N hN () trivial
  refine this.trans ?_
  have : ∀ (l : List α) i, outW (fun _ => some (-1)) (walkL (fun i (_ : Unit) x => bif p x then Sum.inr (some (i : Int)) else Sum.inl ()) i l ()) = some (idxB p i l) := by
    intro l
    induction l with
    | nil => intro i; rfl
    | cons x xs ih =>
      intro i
      simp only [walkL, idxB]
      cases p x with
      | false => simpa using ih (i + 1)
      | true => rfl
  exact this l 0
theorem slicesIndex {N : Nat} (hN : lim < N) {l : List Txt} (hl : l.length ≤ lim) (s : Txt) : slices_Index_string N l s = some (idxB (fun x => s == x) 0 l) := by
  have hlim := lim_eq
  unfold slices_Index_string slices_Index_stringb
  refine lp_idx l _ (fun x => s == x) (fun g i hi => ?_) (fun g => ?_) N (by omega)
  · unfold slices_Index_string_0r
    simp only [dlt hi, dge, gAt hi, cond_true, wrS (show i ≤ 1000000000000000000 by omega)]
  · unfold slices_Index_string_0r
    rw [dnlt]; rfl
theorem slicesContains {N : Nat} (hN : lim < N) {l : List Txt} (hl : l.length ≤ lim) (s : Txt) : slices_Contains_string N l s = some (l.contains s) := by
  unfold slices_Contains_string
  rw [ob_eq (slicesIndex hN hl s), idxB_nonneg, List.contains_eq_any_beq]

/-- The same with what a function value has caught. -/
theorem lp_idxC {α γ : Type} (l : List α) (rd : (Int → γ → Option (Int × γ)) → Int → γ → Option (Int × γ)) (p : α → Bool) (c : γ)
    (hstep : ∀ (g : Int → γ → Option (Int × γ)) (i : Nat) (h : i < l.length), rd g (i : Int) c = bif p l[i] then some ((i : Int), c) else g ((i + 1 : Nat) : Int) c)
    (hend : ∀ (g : Int → γ → Option (Int × γ)), rd g (l.length : Int) c = some (-1, c)) (N : Nat) (hN : l.length < N) : lp (fun _ _ => none) rd N 0 c = some (idxB p 0 l, c) := by
  have := lp_walk l (fun (g : Int → γ → Option (Int × γ)) i (d : γ) => g (i : Int) d) (fun _ _ => none) rd (fun i d x => bif p x then .inr (some ((i : Int), d)) else .inl d) (fun d => some (-1, d)) (fun _ d => d = c)
    (fun g i st h hi => ⟨by
      subst hi
      rw [hstep g i h]
      cases p l[i] <;> rfl, fun st' hs => by
      subst hi
      cases hp : p l[i] with
      | true => rw [hp] at hs; cases hs
      | false => rw [hp] at hs; cases hs; rfl⟩) (fun g d hd => by subst hd; exact hend g) N hN c rfl
  refine this.trans ?_
  have : ∀ (l : List α) i, outW (fun d => some (-1, d)) (walkL (fun i (d : γ) x => bif p x then Sum.inr (some ((i : Int), d)) else Sum.inl d) i l c) = some (idxB p i l, c) := by
    intro l
    induction l with
    | nil => intro i; rfl
    | cons x xs ih =>
      intro i
      simp only [walkL, idxB]
      cases p x with
      | false => simpa using ih (i + 1)
      | true => rfl
  exact this l 0
theorem implCommon {N : Nat} (hN : lim < N) {a b : List Txt} (ha : a.length ≤ lim) (hb : b.length ≤ lim) : impl_common N a b = some (a.any fun x => b.contains x) := by
  have hlim := lim_eq
  unfold impl_common slices_ContainsFunc_string__impl_common_c1
  have h : slices_IndexFunc_string__impl_common_c1 N a b = some (idxB (fun x => b.contains x) 0 a, b) := by
    unfold slices_IndexFunc_string__impl_common_c1 slices_IndexFunc_string__impl_common_c1b
    refine lp_idxC a _ (fun x => b.contains x) b (fun g i hi => ?_) (fun g => ?_) N (by omega)
    · unfold slices_IndexFunc_string__impl_common_c1_0r
      simp only [dlt hi, dge, gAt hi, cond_true, wrS (show i ≤ 1000000000000000000 by omega)]
      have h1 : impl_common_c1 N a[i] b = some (b.contains a[i], b) := by
        unfold impl_common_c1
        rw [ob_eq (slicesContains hN hb _)]
      rw [ob_eq h1]
    · unfold slices_IndexFunc_string__impl_common_c1_0r
      rw [dnlt]; rfl
  rw [ob_eq (a := (a.any fun x => b.contains x, b)) (by rw [ob_eq h, idxB_nonneg])]
end Go.MC

/- ClaimWantOk: the document's and the program's tell the same. -/
set_option linter.unusedVariables false
set_option linter.unusedSimpArgs false
namespace Go.MC
open Go.MC.F

theorem wr3 {a b c : Nat} (ha : a ≤ 1048576) (hb : b ≤ 1048576) (hc : c ≤ 1048576) : IntKind.i64.wrap (IntKind.i64.wrap ((a : Int) + (b : Int)) + (c : Int)) = (a : Int) + (b : Int) + (c : Int) := by
  rw [wr (n := (a : Int) + (b : Int)) (by omega) (by omega), wr (by omega) (by omega)]

theorem dpz (n : Nat) : decide ((n : Int) > 0) = !decide (n = 0) := by cases n <;> simp
theorem dpn (n : Nat) : decide ((n : Int) > 0) = decide (n ≠ 0) := by cases n <;> simp
theorem dsum {a b c : Nat} : ((a : Int) + (b : Int) + (c : Int) == 0) = !decide (a + b + c ≠ 0) := by
  by_cases h : a + b + c = 0
  · rw [decide_eq_false (by omega)]
    exact beq_iff_eq.2 (by omega)
  · rw [decide_eq_true h]
    exact beq_eq_false_iff_ne.2 (by omega)
theorem dsum' {a b c : Nat} : decide ((a : Int) + (b : Int) + (c : Int) > 0) = decide (a + b + c ≠ 0) := by
  by_cases h : a + b + c = 0
  · rw [decide_eq_false (by omega), decide_eq_false (by omega)]
  · rw [decide_eq_true (by omega), decide_eq_true h]

def useOk (w : Want) (i : Nat) (u : Use) : Bool :=
  nmOk u.1 && ((i == 0 || Op.bytesLess (w.2.2.2.1.getD (i - 1) dUse).1 u.1) && (inB u.2.1 1 3 && (bif u.2.1 == 3 then u.2.2 == 0 else (w.2.1 == 1) && inB u.2.2 1 1000)))
def usesOk (w : Want) : Bool := !decide ((w.2.2.2.1.length : Int) > 8) && allI (useOk w) 0 w.2.2.2.1
/-- A want is ok. -/
def wantOk (w : Want) : Bool :=
  inB w.1 1 1000000 && (inB w.2.1 1 3 && (usesOk w && (nmsOk w.2.2.2.2.1 12 && (nmsOk w.2.2.2.2.2 12 && (!(w.2.2.2.2.1.any fun x => w.2.2.2.2.2.contains x) &&
    (decide (w.2.2.2.1.length + w.2.2.2.2.1.length + w.2.2.2.2.2.length ≠ 0) && (((w.2.1 == 1) || decide (w.2.2.2.2.1.length = 0)) && (nmsOk w.2.2.1 8 && ((w.2.1 == 1) == decide (w.2.2.1.length ≠ 0))))))))))

theorem l1UsesOk {N : Nat} (hN : lim < N) (w : Want) : spec_l1UsesOk N w = some (usesOk w) := by
  have hlim := lim_eq
  unfold spec_l1UsesOk spec_l1UsesOkb usesOk
  cases hb : decide ((w.2.2.2.1.length : Int) > 8) with
  | true => rfl
  | false =>
    have hl : w.2.2.2.1.length ≤ 8 := by have := of_decide_eq_false hb; omega
    refine (lp_allI w.2.2.2.1 _ (useOk w) (some false) (some true) (fun g i hi => ?_) (fun g => ?_) N (by omega)).trans ?_
    · unfold spec_l1UsesOk_0r useOk
      simp only [dlt hi, dge, gAt hi, cond_true, wrS (show i ≤ 1000000000000000000 by omega), dgt0]
      rw [ob_eq (l1NameOk hN _)]
      cases nmOk w.2.2.2.1[i].1 with
      | false => rfl
      | true =>
        have key : (ob (spec_l1In N w.2.2.2.1[i].2.1 1 3) false fun r => bif !r then some false else bif w.2.2.2.1[i].2.1 == 3 then bif w.2.2.2.1[i].2.2 != 0 then some false else bif w.2.2.2.1[i].2.1 != 3 then bif w.2.1 != 1 then some false else ob (spec_l1In N w.2.2.2.1[i].2.2 1 1000) false fun r => bif !r then some false else g ((i + 1 : Nat) : Int) else g ((i + 1 : Nat) : Int)
            else bif w.2.2.2.1[i].2.1 != 3 then bif w.2.1 != 1 then some false else ob (spec_l1In N w.2.2.2.1[i].2.2 1 1000) false fun r => bif !r then some false else g ((i + 1 : Nat) : Int) else g ((i + 1 : Nat) : Int)) =
            bif (inB w.2.2.2.1[i].2.1 1 3 && (bif w.2.2.2.1[i].2.1 == 3 then w.2.2.2.1[i].2.2 == 0 else (w.2.1 == 1) && inB w.2.2.2.1[i].2.2 1 1000)) then g ((i + 1 : Nat) : Int) else some false := by
          rw [ob_eq (l1In _ _ _)]
          simp only [ob_eq (l1In w.2.2.2.1[i].2.2 1 1000), bne]
          cases inB w.2.2.2.1[i].2.1 1 3 <;> cases (w.2.2.2.1[i].2.1 == 3) <;> cases (w.2.2.2.1[i].2.2 == 0) <;> cases (w.2.1 == 1) <;> cases inB w.2.2.2.1[i].2.2 1 1000 <;> rfl
        cases h0 : i == 0 with
        | true =>
          simp only [Bool.not_true, cond_false, Bool.true_or, Bool.true_and]
          exact key
        | false =>
          have h0' : 0 < i := by simp at h0; omega
          simp only [Bool.not_true, Bool.not_false, cond_true, cond_false, wrP (show i ≤ 1000000000000000000 by omega) h0', dge, dlt (show i - 1 < w.2.2.2.1.length by omega), gAt', Bool.false_or, Bool.true_and]
          cases Op.bytesLess (w.2.2.2.1.getD (i - 1) dUse).1 w.2.2.2.1[i].1 with
          | false => rfl
          | true => exact key
    · unfold spec_l1UsesOk_0r
      rw [dnlt]; rfl
    · cases allI (useOk w) 0 w.2.2.2.1 <;> rfl

theorem specWantOk {N : Nat} (hN : lim < N) {w : Want} (h : smW w) : spec_ClaimWantOk N w = some (wantOk w) := by
  have hlim := lim_eq
  obtain ⟨h1, h2, h3, h4⟩ := h
  have l1 := h1.1
  have l2 := h2.1
  have l3 := h3.1
  have l4 := h4.1
  unfold spec_ClaimWantOk wantOk
  rw [wr3 l2 l3 l4]
  rw [ob_eq (l1In _ _ _)]
  simp only [ob_eq (l1In w.2.1 1 3), ob_eq (l1UsesOk hN w), ob_eq (l1NamesOk hN (show w.2.2.2.2.1.length ≤ lim by omega) 12), ob_eq (l1NamesOk hN (show w.2.2.2.2.2.length ≤ lim by omega) 12), ob_eq (l1Share hN (show w.2.2.2.2.1.length ≤ lim by omega) (show w.2.2.2.2.2.length ≤ lim by omega)), ob_eq (l1NamesOk hN (show w.2.2.1.length ≤ lim by omega) 8), bne]
  rw [dsum]
  rw [dpz w.2.2.2.2.1.length]
  rw [dpn w.2.2.1.length]
  generalize inB w.1 1 1000000 = x0
  generalize inB w.2.1 1 3 = x1
  generalize usesOk w = x2
  generalize nmsOk w.2.2.2.2.1 12 = x3
  generalize nmsOk w.2.2.2.2.2 12 = x4
  generalize (w.2.2.2.2.1.any fun x => w.2.2.2.2.2.contains x) = x5
  generalize decide (w.2.2.2.1.length + w.2.2.2.2.1.length + w.2.2.2.2.2.length ≠ 0) = x6
  generalize (w.2.1 == 1) = x7
  generalize decide (w.2.2.2.2.1.length = 0) = x8
  generalize nmsOk w.2.2.1 8 = x9
  generalize decide (w.2.2.1.length ≠ 0) = x10
  revert x0 x1 x2 x3 x4 x5 x6 x7 x8 x9 x10
  decide +kernel


theorem implWantOk {N : Nat} (hN : lim < N) {w : Want} (h : smW w) : impl_ClaimWantOk N w = some (wantOk w) := by
  have hlim := lim_eq
  obtain ⟨h1, h2, h3, h4⟩ := h
  have l1 := h1.1
  have l2 := h2.1
  have l3 := h3.1
  have l4 := h4.1
  unfold impl_ClaimWantOk impl_ClaimWantOkb
  rw [ob_eq (implIn _ _ _)]
  simp only [ob_eq (implIn w.2.1 1 3), ob_eq (implNames hN (show w.2.2.1.length ≤ lim by omega) 8)]
  have loop : impl_ClaimWantOk_0 N w (w.2.1 == 1) (w.2.2.2.1.length : Int) N 0 = bif allI (useOk w) 0 w.2.2.2.1 then (impl_ClaimWantOk_0r N w (w.2.1 == 1) (w.2.2.2.1.length : Int) (fun _ => none) (w.2.2.2.1.length : Int)) else some false := by
    refine lp_allI w.2.2.2.1 _ (useOk w) (some false) _ (fun g i hi => ?_) (fun g => ?_) N (by omega)
    · unfold impl_ClaimWantOk_0r useOk
      simp only [dlt hi, dge, gAt hi, cond_true, wrS (show i ≤ 1000000000000000000 by omega), dgt0]
      rw [ob_eq (implName hN _)]
      cases nmOk w.2.2.2.1[i].1 with
      | false => rfl
      | true =>
        have key : (ob (impl_in N w.2.2.2.1[i].2.1 1 3) false fun r => bif !r then some false else bif w.2.2.2.1[i].2.1 == 3 then bif w.2.2.2.1[i].2.2 != 0 then some false else g ((i + 1 : Nat) : Int)
            else bif !(w.2.1 == 1) then some false else ob (impl_in N w.2.2.2.1[i].2.2 1 1000) false fun r => bif !r then some false else g ((i + 1 : Nat) : Int)) =
            bif (inB w.2.2.2.1[i].2.1 1 3 && (bif w.2.2.2.1[i].2.1 == 3 then w.2.2.2.1[i].2.2 == 0 else (w.2.1 == 1) && inB w.2.2.2.1[i].2.2 1 1000)) then g ((i + 1 : Nat) : Int) else some false := by
          rw [ob_eq (implIn _ _ _)]
          simp only [ob_eq (implIn w.2.2.2.1[i].2.2 1 1000), bne]
          cases inB w.2.2.2.1[i].2.1 1 3 <;> cases (w.2.2.2.1[i].2.1 == 3) <;> cases (w.2.2.2.1[i].2.2 == 0) <;> cases (w.2.1 == 1) <;> cases inB w.2.2.2.1[i].2.2 1 1000 <;> rfl
        cases h0 : i == 0 with
        | true =>
          simp only [Bool.not_true, cond_false, Bool.true_or, Bool.true_and]
          exact key
        | false =>
          have h0' : 0 < i := by simp at h0; omega
          simp only [Bool.not_true, Bool.not_false, cond_true, cond_false, wrP (show i ≤ 1000000000000000000 by omega) h0', dge, dlt (show i - 1 < w.2.2.2.1.length by omega), gAt', Bool.false_or, Bool.true_and]
          cases Op.bytesLess (w.2.2.2.1.getD (i - 1) dUse).1 w.2.2.2.1[i].1 with
          | false => rfl
          | true => exact key
    · unfold impl_ClaimWantOk_0r
      rw [dnlt]; rfl
  rw [loop]
  unfold impl_ClaimWantOk_0r wantOk usesOk
  rw [dnlt, cond_false, wr3 l2 l3 l4]
  rw [ob_eq (implNames hN (show w.2.2.2.2.1.length ≤ lim by omega) 12)]
  simp only [ob_eq (implNames hN (show w.2.2.2.2.2.length ≤ lim by omega) 12), ob_eq (implCommon hN (show w.2.2.2.2.1.length ≤ lim by omega) (show w.2.2.2.2.2.length ≤ lim by omega))]
  rw [dsum']
  rw [dpz w.2.2.2.2.1.length]
  rw [dpn w.2.2.1.length]
  generalize inB w.1 1 1000000 = x0
  generalize inB w.2.1 1 3 = x1
  generalize nmsOk w.2.2.1 8 = x2
  generalize (w.2.1 == 1) = x3
  generalize decide (w.2.2.1.length ≠ 0) = x4
  generalize decide ((w.2.2.2.1.length : Int) > 8) = x5
  generalize allI (useOk w) 0 w.2.2.2.1 = x6
  generalize nmsOk w.2.2.2.2.1 12 = x7
  generalize nmsOk w.2.2.2.2.2 12 = x8
  generalize (w.2.2.2.2.1.any fun x => w.2.2.2.2.2.contains x) = x9
  generalize decide (w.2.2.2.2.1.length = 0) = x10
  generalize decide (w.2.2.2.1.length + w.2.2.2.2.1.length + w.2.2.2.2.2.length ≠ 0) = x11
  revert x0 x1 x2 x3 x4 x5 x6 x7 x8 x9 x10 x11
  decide +kernel


theorem fit_want {w : Want} (h : Fit tWant w) : fitW w := by
  obtain ⟨_, _, h1, h2, h3, h4⟩ := h
  exact ⟨h1, ⟨h2.1, fun u hu => (h2.2 u hu).1⟩, h3, h4⟩
end Go.MC


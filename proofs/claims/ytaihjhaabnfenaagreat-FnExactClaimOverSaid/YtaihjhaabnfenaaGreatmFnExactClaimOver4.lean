/- Part 4 of the texts of the claim FnExactClaimOver: an interpreter of the translated code over data, proved sound; the contracts of the functions; the same in plain words. -/
import Derived.Test.YtaihjhaabnfenaaGreatmFnExactClaimOver2
import Derived.Test.YtaihjhaabnfenaaGreatmFnExactClaimOver3
/- The functions do what is told: printed by the program tool/gen.py of this repo. -/
set_option linter.unusedVariables false
set_option maxRecDepth 100000
namespace Go.MC
open Go.Proofs Go.MC.F
noncomputable section
def an_laws_szClaimFoe : Nat → Option Ann := fun _ => none
noncomputable def fi_laws_szClaimFoe : FI := ⟨Tryz.f146.results.toList, bodyOf Tryz.f146.body, Tryz.f146.ntmps, an_laws_szClaimFoe⟩
theorem ok_laws_szClaimFoe : FnOK Tryz.prog 146 fi_laws_szClaimFoe := ⟨⟨Tryz.f146, Tryz.func146, by kernel_rfl, rfl, rfl, by kernel_rfl⟩, by kernel_rfl⟩
def phiL_laws_szClaimFoe (N : Nat) : List (Nat × Summ) := []
def sg_laws_szClaimFoe : Summ := sigOf [.d tFoe true, .d tInt false] false [.d tInt false]
theorem run_laws_szClaimFoe (N : Nat) (a : (List UInt8) × (List UInt8)) (left : Int) : runST (ofDs [tInt]) (tabOf tabL) (tabS (phiL_laws_szClaimFoe N)) inl0 N fi_laws_szClaimFoe sg_laws_szClaimFoe [⟨tFoe, a⟩, ⟨tInt, left⟩] = F.laws_szClaimFoe N a left := by kernel_rfl
def sm_laws_szClaimFoe (N : Nat) : Summ := summOf [.d tFoe true, .d tInt false] false [.d tInt false] [tInt] (F.laws_szClaimFoe N)
theorem con_laws_szClaimFoe (N : Nat) : Contract Tryz.prog 146 (sm_laws_szClaimFoe N) := con_of (N := N) tabOK mixed (callOK_list (l := phiL_laws_szClaimFoe N) trivial) (inl0_ok _) ok_laws_szClaimFoe (by decide) fun a left => run_laws_szClaimFoe N a left
def an_laws_szClaimFoeS : Nat → Option Ann
  | 0 => some ⟨{ fr := [(0, Dir.keep), (1, Dir.keep), (5, Dir.keep)], bx := [], os := [] }, [(0, { fr := [(1, Dir.keep)], bx := [], os := [] })], { fr := [(4, Dir.keep)], bx := [], os := [] }⟩
  | _ => none
noncomputable def fi_laws_szClaimFoeS : FI := ⟨Tryz.f79.results.toList, bodyOf Tryz.f79.body, Tryz.f79.ntmps, an_laws_szClaimFoeS⟩
theorem ok_laws_szClaimFoeS : FnOK Tryz.prog 79 fi_laws_szClaimFoeS := ⟨⟨Tryz.f79, Tryz.func79, by kernel_rfl, rfl, rfl, by kernel_rfl⟩, by kernel_rfl⟩
def phiL_laws_szClaimFoeS (N : Nat) : List (Nat × Summ) := [(146, sm_laws_szClaimFoe N)]
def sg_laws_szClaimFoeS : Summ := sigOf [.d (.slice tFoe) false, .d tInt false] false [.d tInt false]
def S_laws_szClaimFoeS_0 (a : List Foe) (left1 : Int) (i5 : Int) : St := { fr := [(0, AV.w (V1.one (C.v tFoe.slice a))), (1, AV.w (V1.one (C.v tInt left1))), (5, AV.w (V1.one (C.v tInt i5)))], H := [] }
noncomputable def E_laws_szClaimFoeS (N : Nat) : Env := envOf (tabOf tabL) (tabS (phiL_laws_szClaimFoeS N)) inl0 N fi_laws_szClaimFoeS []
noncomputable def K_laws_szClaimFoeS := (kFun (tabOf tabL) fi_laws_szClaimFoeS.res (kT (ofDs [tInt]) sg_laws_szClaimFoeS []))
noncomputable def its_laws_szClaimFoeS_0 (N : Nat) (n : Nat) : St → Option Int := fun S' => iter [] (annAt fi_laws_szClaimFoeS 0) (code (E_laws_szClaimFoeS N) (lpIn fi_laws_szClaimFoeS.body 0 0) 0) n S' (contOf (E_laws_szClaimFoeS N) fi_laws_szClaimFoeS.body 0 0 K_laws_szClaimFoeS)
noncomputable def it_laws_szClaimFoeS_0 (N : Nat) (a : List Foe) (n : Nat) : Int → Int → Option Int := fun left1 i5 => its_laws_szClaimFoeS_0 N n (S_laws_szClaimFoeS_0 a left1 i5)
theorem fe_laws_szClaimFoeS_0 (N : Nat) : it_laws_szClaimFoeS_0 N = laws_szClaimFoeS_0 N := funext fun a => funext (lp_all (by kernel_rfl) fun n => by
    show _ = laws_szClaimFoeS_0r N a (it_laws_szClaimFoeS_0 N a n)
    kernel_rfl)
theorem run_laws_szClaimFoeS (N : Nat) (a : List ((List UInt8) × (List UInt8))) (left : Int) : runST (ofDs [tInt]) (tabOf tabL) (tabS (phiL_laws_szClaimFoeS N)) inl0 N fi_laws_szClaimFoeS sg_laws_szClaimFoeS [⟨.slice tFoe, a⟩, ⟨tInt, left⟩] = F.laws_szClaimFoeS N a left := by
    show _ = F.laws_szClaimFoeSb N (F.laws_szClaimFoeS_0 N) a left
    rw [← fe_laws_szClaimFoeS_0 N]
    kernel_rfl
def sm_laws_szClaimFoeS (N : Nat) : Summ := summOf [.d (.slice tFoe) false, .d tInt false] false [.d tInt false] [tInt] (F.laws_szClaimFoeS N)
theorem con_laws_szClaimFoeS (N : Nat) : Contract Tryz.prog 79 (sm_laws_szClaimFoeS N) := con_of (N := N) tabOK mixed (callOK_list (l := phiL_laws_szClaimFoeS N) (allc rfl (con_laws_szClaimFoe N) trivial)) (inl0_ok _) ok_laws_szClaimFoeS (by decide) fun a left => run_laws_szClaimFoeS N a left
def an_laws_szStringS : Nat → Option Ann
  | 0 => some ⟨{ fr := [(0, Dir.keep), (1, Dir.keep), (5, Dir.keep)], bx := [], os := [] }, [(0, { fr := [(1, Dir.keep)], bx := [], os := [] })], { fr := [(4, Dir.keep)], bx := [], os := [] }⟩
  | _ => none
noncomputable def fi_laws_szStringS : FI := ⟨Tryz.f81.results.toList, bodyOf Tryz.f81.body, Tryz.f81.ntmps, an_laws_szStringS⟩
theorem ok_laws_szStringS : FnOK Tryz.prog 81 fi_laws_szStringS := ⟨⟨Tryz.f81, Tryz.func81, by kernel_rfl, rfl, rfl, by kernel_rfl⟩, by kernel_rfl⟩
def phiL_laws_szStringS (N : Nat) : List (Nat × Summ) := []
def sg_laws_szStringS : Summ := sigOf [.d tTxts false, .d tInt false] false [.d tInt false]
def S_laws_szStringS_0 (a : List Txt) (left1 : Int) (i5 : Int) : St := { fr := [(0, AV.w (V1.one (C.v tTxts a))), (1, AV.w (V1.one (C.v tInt left1))), (5, AV.w (V1.one (C.v tInt i5)))], H := [] }
noncomputable def E_laws_szStringS (N : Nat) : Env := envOf (tabOf tabL) (tabS (phiL_laws_szStringS N)) inl0 N fi_laws_szStringS []
noncomputable def K_laws_szStringS := (kFun (tabOf tabL) fi_laws_szStringS.res (kT (ofDs [tInt]) sg_laws_szStringS []))
noncomputable def its_laws_szStringS_0 (N : Nat) (n : Nat) : St → Option Int := fun S' => iter [] (annAt fi_laws_szStringS 0) (code (E_laws_szStringS N) (lpIn fi_laws_szStringS.body 0 0) 0) n S' (contOf (E_laws_szStringS N) fi_laws_szStringS.body 0 0 K_laws_szStringS)
noncomputable def it_laws_szStringS_0 (N : Nat) (a : List Txt) (n : Nat) : Int → Int → Option Int := fun left1 i5 => its_laws_szStringS_0 N n (S_laws_szStringS_0 a left1 i5)
theorem fe_laws_szStringS_0 (N : Nat) : it_laws_szStringS_0 N = laws_szStringS_0 N := funext fun a => funext (lp_all (by kernel_rfl) fun n => by
    show _ = laws_szStringS_0r N a (it_laws_szStringS_0 N a n)
    kernel_rfl)
theorem run_laws_szStringS (N : Nat) (a : List (List UInt8)) (left : Int) : runST (ofDs [tInt]) (tabOf tabL) (tabS (phiL_laws_szStringS N)) inl0 N fi_laws_szStringS sg_laws_szStringS [⟨tTxts, a⟩, ⟨tInt, left⟩] = F.laws_szStringS N a left := by
    show _ = F.laws_szStringSb N (F.laws_szStringS_0 N) a left
    rw [← fe_laws_szStringS_0 N]
    kernel_rfl
def sm_laws_szStringS (N : Nat) : Summ := summOf [.d tTxts false, .d tInt false] false [.d tInt false] [tInt] (F.laws_szStringS N)
theorem con_laws_szStringS (N : Nat) : Contract Tryz.prog 81 (sm_laws_szStringS N) := con_of (N := N) tabOK mixed (callOK_list (l := phiL_laws_szStringS N) trivial) (inl0_ok _) ok_laws_szStringS (by decide) fun a left => run_laws_szStringS N a left
def an_laws_szClaimSpot : Nat → Option Ann := fun _ => none
noncomputable def fi_laws_szClaimSpot : FI := ⟨Tryz.f147.results.toList, bodyOf Tryz.f147.body, Tryz.f147.ntmps, an_laws_szClaimSpot⟩
theorem ok_laws_szClaimSpot : FnOK Tryz.prog 147 fi_laws_szClaimSpot := ⟨⟨Tryz.f147, Tryz.func147, by kernel_rfl, rfl, rfl, by kernel_rfl⟩, by kernel_rfl⟩
def phiL_laws_szClaimSpot (N : Nat) : List (Nat × Summ) := [(81, sm_laws_szStringS N)]
def sg_laws_szClaimSpot : Summ := sigOf [.d tSpot true, .d tInt false] false [.d tInt false]
theorem run_laws_szClaimSpot (N : Nat) (a : (List UInt8) × ((Int) × ((Int) × ((Int) × (List Txt))))) (left : Int) : runST (ofDs [tInt]) (tabOf tabL) (tabS (phiL_laws_szClaimSpot N)) inl0 N fi_laws_szClaimSpot sg_laws_szClaimSpot [⟨tSpot, a⟩, ⟨tInt, left⟩] = F.laws_szClaimSpot N a left := by kernel_rfl
def sm_laws_szClaimSpot (N : Nat) : Summ := summOf [.d tSpot true, .d tInt false] false [.d tInt false] [tInt] (F.laws_szClaimSpot N)
theorem con_laws_szClaimSpot (N : Nat) : Contract Tryz.prog 147 (sm_laws_szClaimSpot N) := con_of (N := N) tabOK mixed (callOK_list (l := phiL_laws_szClaimSpot N) (allc rfl (con_laws_szStringS N) trivial)) (inl0_ok _) ok_laws_szClaimSpot (by decide) fun a left => run_laws_szClaimSpot N a left
def an_laws_szClaimSpotS : Nat → Option Ann
  | 0 => some ⟨{ fr := [(0, Dir.keep), (1, Dir.keep), (5, Dir.keep)], bx := [], os := [] }, [(0, { fr := [(1, Dir.keep)], bx := [], os := [] })], { fr := [(4, Dir.keep)], bx := [], os := [] }⟩
  | _ => none
noncomputable def fi_laws_szClaimSpotS : FI := ⟨Tryz.f80.results.toList, bodyOf Tryz.f80.body, Tryz.f80.ntmps, an_laws_szClaimSpotS⟩
theorem ok_laws_szClaimSpotS : FnOK Tryz.prog 80 fi_laws_szClaimSpotS := ⟨⟨Tryz.f80, Tryz.func80, by kernel_rfl, rfl, rfl, by kernel_rfl⟩, by kernel_rfl⟩
def phiL_laws_szClaimSpotS (N : Nat) : List (Nat × Summ) := [(147, sm_laws_szClaimSpot N)]
def sg_laws_szClaimSpotS : Summ := sigOf [.d (.slice tSpot) false, .d tInt false] false [.d tInt false]
def S_laws_szClaimSpotS_0 (a : List Spot) (left1 : Int) (i5 : Int) : St := { fr := [(0, AV.w (V1.one (C.v tSpot.slice a))), (1, AV.w (V1.one (C.v tInt left1))), (5, AV.w (V1.one (C.v tInt i5)))], H := [] }
noncomputable def E_laws_szClaimSpotS (N : Nat) : Env := envOf (tabOf tabL) (tabS (phiL_laws_szClaimSpotS N)) inl0 N fi_laws_szClaimSpotS []
noncomputable def K_laws_szClaimSpotS := (kFun (tabOf tabL) fi_laws_szClaimSpotS.res (kT (ofDs [tInt]) sg_laws_szClaimSpotS []))
noncomputable def its_laws_szClaimSpotS_0 (N : Nat) (n : Nat) : St → Option Int := fun S' => iter [] (annAt fi_laws_szClaimSpotS 0) (code (E_laws_szClaimSpotS N) (lpIn fi_laws_szClaimSpotS.body 0 0) 0) n S' (contOf (E_laws_szClaimSpotS N) fi_laws_szClaimSpotS.body 0 0 K_laws_szClaimSpotS)
noncomputable def it_laws_szClaimSpotS_0 (N : Nat) (a : List Spot) (n : Nat) : Int → Int → Option Int := fun left1 i5 => its_laws_szClaimSpotS_0 N n (S_laws_szClaimSpotS_0 a left1 i5)
theorem fe_laws_szClaimSpotS_0 (N : Nat) : it_laws_szClaimSpotS_0 N = laws_szClaimSpotS_0 N := funext fun a => funext (lp_all (by kernel_rfl) fun n => by
    show _ = laws_szClaimSpotS_0r N a (it_laws_szClaimSpotS_0 N a n)
    kernel_rfl)
theorem run_laws_szClaimSpotS (N : Nat) (a : List ((List UInt8) × ((Int) × ((Int) × ((Int) × (List Txt)))))) (left : Int) : runST (ofDs [tInt]) (tabOf tabL) (tabS (phiL_laws_szClaimSpotS N)) inl0 N fi_laws_szClaimSpotS sg_laws_szClaimSpotS [⟨.slice tSpot, a⟩, ⟨tInt, left⟩] = F.laws_szClaimSpotS N a left := by
    show _ = F.laws_szClaimSpotSb N (F.laws_szClaimSpotS_0 N) a left
    rw [← fe_laws_szClaimSpotS_0 N]
    kernel_rfl
def sm_laws_szClaimSpotS (N : Nat) : Summ := summOf [.d (.slice tSpot) false, .d tInt false] false [.d tInt false] [tInt] (F.laws_szClaimSpotS N)
theorem con_laws_szClaimSpotS (N : Nat) : Contract Tryz.prog 80 (sm_laws_szClaimSpotS N) := con_of (N := N) tabOK mixed (callOK_list (l := phiL_laws_szClaimSpotS N) (allc rfl (con_laws_szClaimSpot N) trivial)) (inl0_ok _) ok_laws_szClaimSpotS (by decide) fun a left => run_laws_szClaimSpotS N a left
def an_laws_szClaimUse : Nat → Option Ann := fun _ => none
noncomputable def fi_laws_szClaimUse : FI := ⟨Tryz.f160.results.toList, bodyOf Tryz.f160.body, Tryz.f160.ntmps, an_laws_szClaimUse⟩
theorem ok_laws_szClaimUse : FnOK Tryz.prog 160 fi_laws_szClaimUse := ⟨⟨Tryz.f160, Tryz.func160, by kernel_rfl, rfl, rfl, by kernel_rfl⟩, by kernel_rfl⟩
def phiL_laws_szClaimUse (N : Nat) : List (Nat × Summ) := []
def sg_laws_szClaimUse : Summ := sigOf [.d tUse true, .d tInt false] false [.d tInt false]
theorem run_laws_szClaimUse (N : Nat) (a : (List UInt8) × ((Int) × (Int))) (left : Int) : runST (ofDs [tInt]) (tabOf tabL) (tabS (phiL_laws_szClaimUse N)) inl0 N fi_laws_szClaimUse sg_laws_szClaimUse [⟨tUse, a⟩, ⟨tInt, left⟩] = F.laws_szClaimUse N a left := by kernel_rfl
def sm_laws_szClaimUse (N : Nat) : Summ := summOf [.d tUse true, .d tInt false] false [.d tInt false] [tInt] (F.laws_szClaimUse N)
theorem con_laws_szClaimUse (N : Nat) : Contract Tryz.prog 160 (sm_laws_szClaimUse N) := con_of (N := N) tabOK mixed (callOK_list (l := phiL_laws_szClaimUse N) trivial) (inl0_ok _) ok_laws_szClaimUse (by decide) fun a left => run_laws_szClaimUse N a left
def an_laws_szClaimUseS : Nat → Option Ann
  | 0 => some ⟨{ fr := [(0, Dir.keep), (1, Dir.keep), (5, Dir.keep)], bx := [], os := [] }, [(0, { fr := [(1, Dir.keep)], bx := [], os := [] })], { fr := [(4, Dir.keep)], bx := [], os := [] }⟩
  | _ => none
noncomputable def fi_laws_szClaimUseS : FI := ⟨Tryz.f104.results.toList, bodyOf Tryz.f104.body, Tryz.f104.ntmps, an_laws_szClaimUseS⟩
theorem ok_laws_szClaimUseS : FnOK Tryz.prog 104 fi_laws_szClaimUseS := ⟨⟨Tryz.f104, Tryz.func104, by kernel_rfl, rfl, rfl, by kernel_rfl⟩, by kernel_rfl⟩
def phiL_laws_szClaimUseS (N : Nat) : List (Nat × Summ) := [(160, sm_laws_szClaimUse N)]
def sg_laws_szClaimUseS : Summ := sigOf [.d (.slice tUse) false, .d tInt false] false [.d tInt false]
def S_laws_szClaimUseS_0 (a : List Use) (left1 : Int) (i5 : Int) : St := { fr := [(0, AV.w (V1.one (C.v tUse.slice a))), (1, AV.w (V1.one (C.v tInt left1))), (5, AV.w (V1.one (C.v tInt i5)))], H := [] }
noncomputable def E_laws_szClaimUseS (N : Nat) : Env := envOf (tabOf tabL) (tabS (phiL_laws_szClaimUseS N)) inl0 N fi_laws_szClaimUseS []
noncomputable def K_laws_szClaimUseS := (kFun (tabOf tabL) fi_laws_szClaimUseS.res (kT (ofDs [tInt]) sg_laws_szClaimUseS []))
noncomputable def its_laws_szClaimUseS_0 (N : Nat) (n : Nat) : St → Option Int := fun S' => iter [] (annAt fi_laws_szClaimUseS 0) (code (E_laws_szClaimUseS N) (lpIn fi_laws_szClaimUseS.body 0 0) 0) n S' (contOf (E_laws_szClaimUseS N) fi_laws_szClaimUseS.body 0 0 K_laws_szClaimUseS)
noncomputable def it_laws_szClaimUseS_0 (N : Nat) (a : List Use) (n : Nat) : Int → Int → Option Int := fun left1 i5 => its_laws_szClaimUseS_0 N n (S_laws_szClaimUseS_0 a left1 i5)
theorem fe_laws_szClaimUseS_0 (N : Nat) : it_laws_szClaimUseS_0 N = laws_szClaimUseS_0 N := funext fun a => funext (lp_all (by kernel_rfl) fun n => by
    show _ = laws_szClaimUseS_0r N a (it_laws_szClaimUseS_0 N a n)
    kernel_rfl)
theorem run_laws_szClaimUseS (N : Nat) (a : List ((List UInt8) × ((Int) × (Int)))) (left : Int) : runST (ofDs [tInt]) (tabOf tabL) (tabS (phiL_laws_szClaimUseS N)) inl0 N fi_laws_szClaimUseS sg_laws_szClaimUseS [⟨.slice tUse, a⟩, ⟨tInt, left⟩] = F.laws_szClaimUseS N a left := by
    show _ = F.laws_szClaimUseSb N (F.laws_szClaimUseS_0 N) a left
    rw [← fe_laws_szClaimUseS_0 N]
    kernel_rfl
def sm_laws_szClaimUseS (N : Nat) : Summ := summOf [.d (.slice tUse) false, .d tInt false] false [.d tInt false] [tInt] (F.laws_szClaimUseS N)
theorem con_laws_szClaimUseS (N : Nat) : Contract Tryz.prog 104 (sm_laws_szClaimUseS N) := con_of (N := N) tabOK mixed (callOK_list (l := phiL_laws_szClaimUseS N) (allc rfl (con_laws_szClaimUse N) trivial)) (inl0_ok _) ok_laws_szClaimUseS (by decide) fun a left => run_laws_szClaimUseS N a left
def an_laws_szClaimWant : Nat → Option Ann := fun _ => none
noncomputable def fi_laws_szClaimWant : FI := ⟨Tryz.f37.results.toList, bodyOf Tryz.f37.body, Tryz.f37.ntmps, an_laws_szClaimWant⟩
theorem ok_laws_szClaimWant : FnOK Tryz.prog 37 fi_laws_szClaimWant := ⟨⟨Tryz.f37, Tryz.func37, by kernel_rfl, rfl, rfl, by kernel_rfl⟩, by kernel_rfl⟩
def phiL_laws_szClaimWant (N : Nat) : List (Nat × Summ) := [(81, sm_laws_szStringS N), (104, sm_laws_szClaimUseS N)]
def sg_laws_szClaimWant : Summ := sigOf [.d tWant true, .d tInt false] false [.d tInt false]
theorem run_laws_szClaimWant (N : Nat) (a : (Int) × ((Int) × ((List Txt) × ((List ((List UInt8) × ((Int) × (Int)))) × ((List Txt) × (List Txt)))))) (left : Int) : runST (ofDs [tInt]) (tabOf tabL) (tabS (phiL_laws_szClaimWant N)) inl0 N fi_laws_szClaimWant sg_laws_szClaimWant [⟨tWant, a⟩, ⟨tInt, left⟩] = F.laws_szClaimWant N a left := by kernel_rfl
def sm_laws_szClaimWant (N : Nat) : Summ := summOf [.d tWant true, .d tInt false] false [.d tInt false] [tInt] (F.laws_szClaimWant N)
theorem con_laws_szClaimWant (N : Nat) : Contract Tryz.prog 37 (sm_laws_szClaimWant N) := con_of (N := N) tabOK mixed (callOK_list (l := phiL_laws_szClaimWant N) (allc rfl (con_laws_szStringS N) (allc rfl (con_laws_szClaimUseS N) trivial))) (inl0_ok _) ok_laws_szClaimWant (by decide) fun a left => run_laws_szClaimWant N a left
def an_laws_szClaimPart : Nat → Option Ann := fun _ => none
noncomputable def fi_laws_szClaimPart : FI := ⟨Tryz.f148.results.toList, bodyOf Tryz.f148.body, Tryz.f148.ntmps, an_laws_szClaimPart⟩
theorem ok_laws_szClaimPart : FnOK Tryz.prog 148 fi_laws_szClaimPart := ⟨⟨Tryz.f148, Tryz.func148, by kernel_rfl, rfl, rfl, by kernel_rfl⟩, by kernel_rfl⟩
def phiL_laws_szClaimPart (N : Nat) : List (Nat × Summ) := [(37, sm_laws_szClaimWant N)]
def sg_laws_szClaimPart : Summ := sigOf [.d tPart true, .d tInt false] false [.d tInt false]
theorem run_laws_szClaimPart (N : Nat) (a : ((Int) × ((Int) × ((List Txt) × ((List ((List UInt8) × ((Int) × (Int)))) × ((List Txt) × (List Txt)))))) × (Bool)) (left : Int) : runST (ofDs [tInt]) (tabOf tabL) (tabS (phiL_laws_szClaimPart N)) inl0 N fi_laws_szClaimPart sg_laws_szClaimPart [⟨tPart, a⟩, ⟨tInt, left⟩] = F.laws_szClaimPart N a left := by kernel_rfl
def sm_laws_szClaimPart (N : Nat) : Summ := summOf [.d tPart true, .d tInt false] false [.d tInt false] [tInt] (F.laws_szClaimPart N)
theorem con_laws_szClaimPart (N : Nat) : Contract Tryz.prog 148 (sm_laws_szClaimPart N) := con_of (N := N) tabOK mixed (callOK_list (l := phiL_laws_szClaimPart N) (allc rfl (con_laws_szClaimWant N) trivial)) (inl0_ok _) ok_laws_szClaimPart (by decide) fun a left => run_laws_szClaimPart N a left
def an_laws_szClaimPartS : Nat → Option Ann
  | 0 => some ⟨{ fr := [(0, Dir.keep), (1, Dir.keep), (5, Dir.keep)], bx := [], os := [] }, [(0, { fr := [(1, Dir.keep)], bx := [], os := [] })], { fr := [(4, Dir.keep)], bx := [], os := [] }⟩
  | _ => none
noncomputable def fi_laws_szClaimPartS : FI := ⟨Tryz.f82.results.toList, bodyOf Tryz.f82.body, Tryz.f82.ntmps, an_laws_szClaimPartS⟩
theorem ok_laws_szClaimPartS : FnOK Tryz.prog 82 fi_laws_szClaimPartS := ⟨⟨Tryz.f82, Tryz.func82, by kernel_rfl, rfl, rfl, by kernel_rfl⟩, by kernel_rfl⟩
def phiL_laws_szClaimPartS (N : Nat) : List (Nat × Summ) := [(148, sm_laws_szClaimPart N)]
def sg_laws_szClaimPartS : Summ := sigOf [.d (.slice tPart) false, .d tInt false] false [.d tInt false]
def S_laws_szClaimPartS_0 (a : List Part) (left1 : Int) (i5 : Int) : St := { fr := [(0, AV.w (V1.one (C.v tPart.slice a))), (1, AV.w (V1.one (C.v tInt left1))), (5, AV.w (V1.one (C.v tInt i5)))], H := [] }
noncomputable def E_laws_szClaimPartS (N : Nat) : Env := envOf (tabOf tabL) (tabS (phiL_laws_szClaimPartS N)) inl0 N fi_laws_szClaimPartS []
noncomputable def K_laws_szClaimPartS := (kFun (tabOf tabL) fi_laws_szClaimPartS.res (kT (ofDs [tInt]) sg_laws_szClaimPartS []))
noncomputable def its_laws_szClaimPartS_0 (N : Nat) (n : Nat) : St → Option Int := fun S' => iter [] (annAt fi_laws_szClaimPartS 0) (code (E_laws_szClaimPartS N) (lpIn fi_laws_szClaimPartS.body 0 0) 0) n S' (contOf (E_laws_szClaimPartS N) fi_laws_szClaimPartS.body 0 0 K_laws_szClaimPartS)
noncomputable def it_laws_szClaimPartS_0 (N : Nat) (a : List Part) (n : Nat) : Int → Int → Option Int := fun left1 i5 => its_laws_szClaimPartS_0 N n (S_laws_szClaimPartS_0 a left1 i5)
theorem fe_laws_szClaimPartS_0 (N : Nat) : it_laws_szClaimPartS_0 N = laws_szClaimPartS_0 N := funext fun a => funext (lp_all (by kernel_rfl) fun n => by
    show _ = laws_szClaimPartS_0r N a (it_laws_szClaimPartS_0 N a n)
    kernel_rfl)
theorem run_laws_szClaimPartS (N : Nat) (a : List (((Int) × ((Int) × ((List Txt) × ((List ((List UInt8) × ((Int) × (Int)))) × ((List Txt) × (List Txt)))))) × (Bool))) (left : Int) : runST (ofDs [tInt]) (tabOf tabL) (tabS (phiL_laws_szClaimPartS N)) inl0 N fi_laws_szClaimPartS sg_laws_szClaimPartS [⟨.slice tPart, a⟩, ⟨tInt, left⟩] = F.laws_szClaimPartS N a left := by
    show _ = F.laws_szClaimPartSb N (F.laws_szClaimPartS_0 N) a left
    rw [← fe_laws_szClaimPartS_0 N]
    kernel_rfl
def sm_laws_szClaimPartS (N : Nat) : Summ := summOf [.d (.slice tPart) false, .d tInt false] false [.d tInt false] [tInt] (F.laws_szClaimPartS N)
theorem con_laws_szClaimPartS (N : Nat) : Contract Tryz.prog 82 (sm_laws_szClaimPartS N) := con_of (N := N) tabOK mixed (callOK_list (l := phiL_laws_szClaimPartS N) (allc rfl (con_laws_szClaimPart N) trivial)) (inl0_ok _) ok_laws_szClaimPartS (by decide) fun a left => run_laws_szClaimPartS N a left
def an_laws_szClaimBook : Nat → Option Ann := fun _ => none
noncomputable def fi_laws_szClaimBook : FI := ⟨Tryz.f24.results.toList, bodyOf Tryz.f24.body, Tryz.f24.ntmps, an_laws_szClaimBook⟩
theorem ok_laws_szClaimBook : FnOK Tryz.prog 24 fi_laws_szClaimBook := ⟨⟨Tryz.f24, Tryz.func24, by kernel_rfl, rfl, rfl, by kernel_rfl⟩, by kernel_rfl⟩
def phiL_laws_szClaimBook (N : Nat) : List (Nat × Summ) := [(79, sm_laws_szClaimFoeS N), (80, sm_laws_szClaimSpotS N), (81, sm_laws_szStringS N), (82, sm_laws_szClaimPartS N)]
def sg_laws_szClaimBook : Summ := sigOf [.d tBook true, .d tInt false] false [.d tInt false]
theorem run_laws_szClaimBook (N : Nat) (a : (List ((List UInt8) × (List UInt8))) × ((List ((List UInt8) × ((Int) × ((Int) × ((Int) × (List Txt)))))) × ((List Txt) × ((List (((Int) × ((Int) × ((List Txt) × ((List ((List UInt8) × ((Int) × (Int)))) × ((List Txt) × (List Txt)))))) × (Bool))) × (Int))))) (left : Int) : runST (ofDs [tInt]) (tabOf tabL) (tabS (phiL_laws_szClaimBook N)) inl0 N fi_laws_szClaimBook sg_laws_szClaimBook [⟨tBook, a⟩, ⟨tInt, left⟩] = F.laws_szClaimBook N a left := by kernel_rfl
def sm_laws_szClaimBook (N : Nat) : Summ := summOf [.d tBook true, .d tInt false] false [.d tInt false] [tInt] (F.laws_szClaimBook N)
theorem con_laws_szClaimBook (N : Nat) : Contract Tryz.prog 24 (sm_laws_szClaimBook N) := con_of (N := N) tabOK mixed (callOK_list (l := phiL_laws_szClaimBook N) (allc rfl (con_laws_szClaimFoeS N) (allc rfl (con_laws_szClaimSpotS N) (allc rfl (con_laws_szStringS N) (allc rfl (con_laws_szClaimPartS N) trivial))))) (inl0_ok _) ok_laws_szClaimBook (by decide) fun a left => run_laws_szClaimBook N a left
def an_laws_toClaimFoe : Nat → Option Ann := fun _ => none
noncomputable def fi_laws_toClaimFoe : FI := ⟨Tryz.f149.results.toList, bodyOf Tryz.f149.body, Tryz.f149.ntmps, an_laws_toClaimFoe⟩
theorem ok_laws_toClaimFoe : FnOK Tryz.prog 149 fi_laws_toClaimFoe := ⟨⟨Tryz.f149, Tryz.func149, by kernel_rfl, rfl, rfl, by kernel_rfl⟩, by kernel_rfl⟩
def phiL_laws_toClaimFoe (N : Nat) : List (Nat × Summ) := []
def sg_laws_toClaimFoe : Summ := sigOf [.d tFoe true] false [.d tFoe true]
theorem run_laws_toClaimFoe (N : Nat) (a : (List UInt8) × (List UInt8)) : runST (ofDs [tFoe]) (tabOf tabL) (tabS (phiL_laws_toClaimFoe N)) inl0 N fi_laws_toClaimFoe sg_laws_toClaimFoe [⟨tFoe, a⟩] = F.laws_toClaimFoe N a := by kernel_rfl
def sm_laws_toClaimFoe (N : Nat) : Summ := summOf [.d tFoe true] false [.d tFoe true] [tFoe] (F.laws_toClaimFoe N)
theorem con_laws_toClaimFoe (N : Nat) : Contract Tryz.prog 149 (sm_laws_toClaimFoe N) := con_of (N := N) tabOK mixed (callOK_list (l := phiL_laws_toClaimFoe N) trivial) (inl0_ok _) ok_laws_toClaimFoe (by decide) fun a => run_laws_toClaimFoe N a
def an_laws_toClaimFoeS : Nat → Option Ann
  | 0 => some ⟨{ fr := [(0, Dir.keep), (3, Dir.own 700003 106 tFoe), (4, Dir.keep)], bx := [], os := [] }, [(0, { fr := [(3, Dir.own 700003 106 tFoe)], bx := [], os := [] })], ⟨[], [], []⟩⟩
  | _ => none
noncomputable def fi_laws_toClaimFoeS : FI := ⟨Tryz.f83.results.toList, bodyOf Tryz.f83.body, Tryz.f83.ntmps, an_laws_toClaimFoeS⟩
theorem ok_laws_toClaimFoeS : FnOK Tryz.prog 83 fi_laws_toClaimFoeS := ⟨⟨Tryz.f83, Tryz.func83, by kernel_rfl, rfl, rfl, by kernel_rfl⟩, by kernel_rfl⟩
def phiL_laws_toClaimFoeS (N : Nat) : List (Nat × Summ) := [(149, sm_laws_toClaimFoe N)]
def sg_laws_toClaimFoeS : Summ := sigOf [.d (.slice tFoe) false] false [.own (.slice tFoe) false [(106, none)]]
def S_laws_toClaimFoeS_0 (a : List Foe) (i4 : Int) (out3a : List Foe) : St := { fr := [(0, AV.w (V1.one (C.v tFoe.slice a))), (3, AV.w (V1.one (C.arr 700003))), (4, AV.w (V1.one (C.v tInt i4)))], H := [(700003, Ob.arr 106 tFoe out3a)] }
noncomputable def E_laws_toClaimFoeS (N : Nat) : Env := envOf (tabOf tabL) (tabS (phiL_laws_toClaimFoeS N)) inl0 N fi_laws_toClaimFoeS []
noncomputable def K_laws_toClaimFoeS := (kFun (tabOf tabL) fi_laws_toClaimFoeS.res (kT (ofDs [.slice tFoe]) sg_laws_toClaimFoeS []))
noncomputable def its_laws_toClaimFoeS_0 (N : Nat) (n : Nat) : St → Option (List Foe) := fun S' => iter [] (annAt fi_laws_toClaimFoeS 0) (code (E_laws_toClaimFoeS N) (lpIn fi_laws_toClaimFoeS.body 0 0) 0) n S' (contOf (E_laws_toClaimFoeS N) fi_laws_toClaimFoeS.body 0 0 K_laws_toClaimFoeS)
noncomputable def it_laws_toClaimFoeS_0 (N : Nat) (a : List Foe) (n : Nat) : Int → (List Foe) → Option (List Foe) := fun i4 out3a => its_laws_toClaimFoeS_0 N n (S_laws_toClaimFoeS_0 a i4 out3a)
theorem fe_laws_toClaimFoeS_0 (N : Nat) : it_laws_toClaimFoeS_0 N = laws_toClaimFoeS_0 N := funext fun a => funext (lp_all (by kernel_rfl) fun n => by
    show _ = laws_toClaimFoeS_0r N a (it_laws_toClaimFoeS_0 N a n)
    kernel_rfl)
theorem run_laws_toClaimFoeS (N : Nat) (a : List ((List UInt8) × (List UInt8))) : runST (ofDs [.slice tFoe]) (tabOf tabL) (tabS (phiL_laws_toClaimFoeS N)) inl0 N fi_laws_toClaimFoeS sg_laws_toClaimFoeS [⟨.slice tFoe, a⟩] = F.laws_toClaimFoeS N a := by
    show _ = F.laws_toClaimFoeSb N (F.laws_toClaimFoeS_0 N) a
    rw [← fe_laws_toClaimFoeS_0 N]
    kernel_rfl
def sm_laws_toClaimFoeS (N : Nat) : Summ := summOf [.d (.slice tFoe) false] false [.own (.slice tFoe) false [(106, none)]] [.slice tFoe] (F.laws_toClaimFoeS N)
theorem con_laws_toClaimFoeS (N : Nat) : Contract Tryz.prog 83 (sm_laws_toClaimFoeS N) := con_of (N := N) tabOK mixed (callOK_list (l := phiL_laws_toClaimFoeS N) (allc rfl (con_laws_toClaimFoe N) trivial)) (inl0_ok _) ok_laws_toClaimFoeS (by decide) fun a => run_laws_toClaimFoeS N a
def an_laws_toStringS : Nat → Option Ann
  | 0 => some ⟨{ fr := [(0, Dir.keep), (3, Dir.own 700003 9 Ty.str), (4, Dir.keep)], bx := [], os := [] }, [(0, { fr := [(3, Dir.own 700003 9 Ty.str)], bx := [], os := [] })], ⟨[], [], []⟩⟩
  | _ => none
noncomputable def fi_laws_toStringS : FI := ⟨Tryz.f85.results.toList, bodyOf Tryz.f85.body, Tryz.f85.ntmps, an_laws_toStringS⟩
theorem ok_laws_toStringS : FnOK Tryz.prog 85 fi_laws_toStringS := ⟨⟨Tryz.f85, Tryz.func85, by kernel_rfl, rfl, rfl, by kernel_rfl⟩, by kernel_rfl⟩
def phiL_laws_toStringS (N : Nat) : List (Nat × Summ) := []
def sg_laws_toStringS : Summ := sigOf [.d tTxts false] false [.own tTxts false [(9, none)]]
def S_laws_toStringS_0 (a : List Txt) (i4 : Int) (out3a : List Txt) : St := { fr := [(0, AV.w (V1.one (C.v tTxts a))), (3, AV.w (V1.one (C.arr 700003))), (4, AV.w (V1.one (C.v tInt i4)))], H := [(700003, Ob.arr 9 Ty.str out3a)] }
noncomputable def E_laws_toStringS (N : Nat) : Env := envOf (tabOf tabL) (tabS (phiL_laws_toStringS N)) inl0 N fi_laws_toStringS []
noncomputable def K_laws_toStringS := (kFun (tabOf tabL) fi_laws_toStringS.res (kT (ofDs [tTxts]) sg_laws_toStringS []))
noncomputable def its_laws_toStringS_0 (N : Nat) (n : Nat) : St → Option (List Txt) := fun S' => iter [] (annAt fi_laws_toStringS 0) (code (E_laws_toStringS N) (lpIn fi_laws_toStringS.body 0 0) 0) n S' (contOf (E_laws_toStringS N) fi_laws_toStringS.body 0 0 K_laws_toStringS)
noncomputable def it_laws_toStringS_0 (N : Nat) (a : List Txt) (n : Nat) : Int → (List Txt) → Option (List Txt) := fun i4 out3a => its_laws_toStringS_0 N n (S_laws_toStringS_0 a i4 out3a)
theorem fe_laws_toStringS_0 (N : Nat) : it_laws_toStringS_0 N = laws_toStringS_0 N := funext fun a => funext (lp_all (by kernel_rfl) fun n => by
    show _ = laws_toStringS_0r N a (it_laws_toStringS_0 N a n)
    kernel_rfl)
theorem run_laws_toStringS (N : Nat) (a : List (List UInt8)) : runST (ofDs [tTxts]) (tabOf tabL) (tabS (phiL_laws_toStringS N)) inl0 N fi_laws_toStringS sg_laws_toStringS [⟨tTxts, a⟩] = F.laws_toStringS N a := by
    show _ = F.laws_toStringSb N (F.laws_toStringS_0 N) a
    rw [← fe_laws_toStringS_0 N]
    kernel_rfl
def sm_laws_toStringS (N : Nat) : Summ := summOf [.d tTxts false] false [.own tTxts false [(9, none)]] [tTxts] (F.laws_toStringS N)
theorem con_laws_toStringS (N : Nat) : Contract Tryz.prog 85 (sm_laws_toStringS N) := con_of (N := N) tabOK mixed (callOK_list (l := phiL_laws_toStringS N) trivial) (inl0_ok _) ok_laws_toStringS (by decide) fun a => run_laws_toStringS N a
def an_laws_toClaimSpot : Nat → Option Ann := fun _ => none
noncomputable def fi_laws_toClaimSpot : FI := ⟨Tryz.f150.results.toList, bodyOf Tryz.f150.body, Tryz.f150.ntmps, an_laws_toClaimSpot⟩
theorem ok_laws_toClaimSpot : FnOK Tryz.prog 150 fi_laws_toClaimSpot := ⟨⟨Tryz.f150, Tryz.func150, by kernel_rfl, rfl, rfl, by kernel_rfl⟩, by kernel_rfl⟩
def phiL_laws_toClaimSpot (N : Nat) : List (Nat × Summ) := [(85, sm_laws_toStringS N)]
def sg_laws_toClaimSpot : Summ := sigOf [.d tSpot true] false [.own tSpot true [(9, none)]]
theorem run_laws_toClaimSpot (N : Nat) (a : (List UInt8) × ((Int) × ((Int) × ((Int) × (List Txt))))) : runST (ofDs [tSpot]) (tabOf tabL) (tabS (phiL_laws_toClaimSpot N)) inl0 N fi_laws_toClaimSpot sg_laws_toClaimSpot [⟨tSpot, a⟩] = F.laws_toClaimSpot N a := by kernel_rfl
def sm_laws_toClaimSpot (N : Nat) : Summ := summOf [.d tSpot true] false [.own tSpot true [(9, none)]] [tSpot] (F.laws_toClaimSpot N)
theorem con_laws_toClaimSpot (N : Nat) : Contract Tryz.prog 150 (sm_laws_toClaimSpot N) := con_of (N := N) tabOK mixed (callOK_list (l := phiL_laws_toClaimSpot N) (allc rfl (con_laws_toStringS N) trivial)) (inl0_ok _) ok_laws_toClaimSpot (by decide) fun a => run_laws_toClaimSpot N a
def an_laws_toClaimSpotS : Nat → Option Ann
  | 0 => some ⟨{ fr := [(0, Dir.keep), (3, Dir.dow 700003 34 [9] tSpot), (4, Dir.keep)], bx := [], os := [] }, [(0, { fr := [(3, Dir.dow 700003 34 [9] tSpot)], bx := [], os := [] })], ⟨[], [], []⟩⟩
  | _ => none
noncomputable def fi_laws_toClaimSpotS : FI := ⟨Tryz.f84.results.toList, bodyOf Tryz.f84.body, Tryz.f84.ntmps, an_laws_toClaimSpotS⟩
theorem ok_laws_toClaimSpotS : FnOK Tryz.prog 84 fi_laws_toClaimSpotS := ⟨⟨Tryz.f84, Tryz.func84, by kernel_rfl, rfl, rfl, by kernel_rfl⟩, by kernel_rfl⟩
def phiL_laws_toClaimSpotS (N : Nat) : List (Nat × Summ) := [(150, sm_laws_toClaimSpot N)]
def sg_laws_toClaimSpotS : Summ := sigOf [.d (.slice tSpot) false] false [.own (.slice tSpot) false [(34, (some [9]))]]
def S_laws_toClaimSpotS_0 (a : List Spot) (i4 : Int) (out3a : List Spot) : St := { fr := [(0, AV.w (V1.one (C.v tSpot.slice a))), (3, AV.w (V1.one (C.arr 700003))), (4, AV.w (V1.one (C.v tInt i4)))], H := [(700003, Ob.arr 34 tSpot out3a (Dp.yes [9]))] }
noncomputable def E_laws_toClaimSpotS (N : Nat) : Env := envOf (tabOf tabL) (tabS (phiL_laws_toClaimSpotS N)) inl0 N fi_laws_toClaimSpotS []
noncomputable def K_laws_toClaimSpotS := (kFun (tabOf tabL) fi_laws_toClaimSpotS.res (kT (ofDs [.slice tSpot]) sg_laws_toClaimSpotS []))
noncomputable def its_laws_toClaimSpotS_0 (N : Nat) (n : Nat) : St → Option (List Spot) := fun S' => iter [] (annAt fi_laws_toClaimSpotS 0) (code (E_laws_toClaimSpotS N) (lpIn fi_laws_toClaimSpotS.body 0 0) 0) n S' (contOf (E_laws_toClaimSpotS N) fi_laws_toClaimSpotS.body 0 0 K_laws_toClaimSpotS)
noncomputable def it_laws_toClaimSpotS_0 (N : Nat) (a : List Spot) (n : Nat) : Int → (List Spot) → Option (List Spot) := fun i4 out3a => its_laws_toClaimSpotS_0 N n (S_laws_toClaimSpotS_0 a i4 out3a)
theorem fe_laws_toClaimSpotS_0 (N : Nat) : it_laws_toClaimSpotS_0 N = laws_toClaimSpotS_0 N := funext fun a => funext (lp_all (by kernel_rfl) fun n => by
    show _ = laws_toClaimSpotS_0r N a (it_laws_toClaimSpotS_0 N a n)
    kernel_rfl)
theorem run_laws_toClaimSpotS (N : Nat) (a : List ((List UInt8) × ((Int) × ((Int) × ((Int) × (List Txt)))))) : runST (ofDs [.slice tSpot]) (tabOf tabL) (tabS (phiL_laws_toClaimSpotS N)) inl0 N fi_laws_toClaimSpotS sg_laws_toClaimSpotS [⟨.slice tSpot, a⟩] = F.laws_toClaimSpotS N a := by
    show _ = F.laws_toClaimSpotSb N (F.laws_toClaimSpotS_0 N) a
    rw [← fe_laws_toClaimSpotS_0 N]
    kernel_rfl
def sm_laws_toClaimSpotS (N : Nat) : Summ := summOf [.d (.slice tSpot) false] false [.own (.slice tSpot) false [(34, (some [9]))]] [.slice tSpot] (F.laws_toClaimSpotS N)
theorem con_laws_toClaimSpotS (N : Nat) : Contract Tryz.prog 84 (sm_laws_toClaimSpotS N) := con_of (N := N) tabOK mixed (callOK_list (l := phiL_laws_toClaimSpotS N) (allc rfl (con_laws_toClaimSpot N) trivial)) (inl0_ok _) ok_laws_toClaimSpotS (by decide) fun a => run_laws_toClaimSpotS N a
def an_laws_toClaimUse : Nat → Option Ann := fun _ => none
noncomputable def fi_laws_toClaimUse : FI := ⟨Tryz.f165.results.toList, bodyOf Tryz.f165.body, Tryz.f165.ntmps, an_laws_toClaimUse⟩
theorem ok_laws_toClaimUse : FnOK Tryz.prog 165 fi_laws_toClaimUse := ⟨⟨Tryz.f165, Tryz.func165, by kernel_rfl, rfl, rfl, by kernel_rfl⟩, by kernel_rfl⟩
def phiL_laws_toClaimUse (N : Nat) : List (Nat × Summ) := []
def sg_laws_toClaimUse : Summ := sigOf [.d tUse true] false [.d tUse true]
theorem run_laws_toClaimUse (N : Nat) (a : (List UInt8) × ((Int) × (Int))) : runST (ofDs [tUse]) (tabOf tabL) (tabS (phiL_laws_toClaimUse N)) inl0 N fi_laws_toClaimUse sg_laws_toClaimUse [⟨tUse, a⟩] = F.laws_toClaimUse N a := by kernel_rfl
def sm_laws_toClaimUse (N : Nat) : Summ := summOf [.d tUse true] false [.d tUse true] [tUse] (F.laws_toClaimUse N)
theorem con_laws_toClaimUse (N : Nat) : Contract Tryz.prog 165 (sm_laws_toClaimUse N) := con_of (N := N) tabOK mixed (callOK_list (l := phiL_laws_toClaimUse N) trivial) (inl0_ok _) ok_laws_toClaimUse (by decide) fun a => run_laws_toClaimUse N a
def an_laws_toClaimUseS : Nat → Option Ann
  | 0 => some ⟨{ fr := [(0, Dir.keep), (3, Dir.own 700003 82 tUse), (4, Dir.keep)], bx := [], os := [] }, [(0, { fr := [(3, Dir.own 700003 82 tUse)], bx := [], os := [] })], ⟨[], [], []⟩⟩
  | _ => none
noncomputable def fi_laws_toClaimUseS : FI := ⟨Tryz.f112.results.toList, bodyOf Tryz.f112.body, Tryz.f112.ntmps, an_laws_toClaimUseS⟩
theorem ok_laws_toClaimUseS : FnOK Tryz.prog 112 fi_laws_toClaimUseS := ⟨⟨Tryz.f112, Tryz.func112, by kernel_rfl, rfl, rfl, by kernel_rfl⟩, by kernel_rfl⟩
def phiL_laws_toClaimUseS (N : Nat) : List (Nat × Summ) := [(165, sm_laws_toClaimUse N)]
def sg_laws_toClaimUseS : Summ := sigOf [.d (.slice tUse) false] false [.own (.slice tUse) false [(82, none)]]
def S_laws_toClaimUseS_0 (a : List Use) (i4 : Int) (out3a : List Use) : St := { fr := [(0, AV.w (V1.one (C.v tUse.slice a))), (3, AV.w (V1.one (C.arr 700003))), (4, AV.w (V1.one (C.v tInt i4)))], H := [(700003, Ob.arr 82 tUse out3a)] }
noncomputable def E_laws_toClaimUseS (N : Nat) : Env := envOf (tabOf tabL) (tabS (phiL_laws_toClaimUseS N)) inl0 N fi_laws_toClaimUseS []
noncomputable def K_laws_toClaimUseS := (kFun (tabOf tabL) fi_laws_toClaimUseS.res (kT (ofDs [.slice tUse]) sg_laws_toClaimUseS []))
noncomputable def its_laws_toClaimUseS_0 (N : Nat) (n : Nat) : St → Option (List Use) := fun S' => iter [] (annAt fi_laws_toClaimUseS 0) (code (E_laws_toClaimUseS N) (lpIn fi_laws_toClaimUseS.body 0 0) 0) n S' (contOf (E_laws_toClaimUseS N) fi_laws_toClaimUseS.body 0 0 K_laws_toClaimUseS)
noncomputable def it_laws_toClaimUseS_0 (N : Nat) (a : List Use) (n : Nat) : Int → (List Use) → Option (List Use) := fun i4 out3a => its_laws_toClaimUseS_0 N n (S_laws_toClaimUseS_0 a i4 out3a)
theorem fe_laws_toClaimUseS_0 (N : Nat) : it_laws_toClaimUseS_0 N = laws_toClaimUseS_0 N := funext fun a => funext (lp_all (by kernel_rfl) fun n => by
    show _ = laws_toClaimUseS_0r N a (it_laws_toClaimUseS_0 N a n)
    kernel_rfl)
theorem run_laws_toClaimUseS (N : Nat) (a : List ((List UInt8) × ((Int) × (Int)))) : runST (ofDs [.slice tUse]) (tabOf tabL) (tabS (phiL_laws_toClaimUseS N)) inl0 N fi_laws_toClaimUseS sg_laws_toClaimUseS [⟨.slice tUse, a⟩] = F.laws_toClaimUseS N a := by
    show _ = F.laws_toClaimUseSb N (F.laws_toClaimUseS_0 N) a
    rw [← fe_laws_toClaimUseS_0 N]
    kernel_rfl
def sm_laws_toClaimUseS (N : Nat) : Summ := summOf [.d (.slice tUse) false] false [.own (.slice tUse) false [(82, none)]] [.slice tUse] (F.laws_toClaimUseS N)
theorem con_laws_toClaimUseS (N : Nat) : Contract Tryz.prog 112 (sm_laws_toClaimUseS N) := con_of (N := N) tabOK mixed (callOK_list (l := phiL_laws_toClaimUseS N) (allc rfl (con_laws_toClaimUse N) trivial)) (inl0_ok _) ok_laws_toClaimUseS (by decide) fun a => run_laws_toClaimUseS N a
def an_laws_toClaimWant : Nat → Option Ann := fun _ => none
noncomputable def fi_laws_toClaimWant : FI := ⟨Tryz.f39.results.toList, bodyOf Tryz.f39.body, Tryz.f39.ntmps, an_laws_toClaimWant⟩
theorem ok_laws_toClaimWant : FnOK Tryz.prog 39 fi_laws_toClaimWant := ⟨⟨Tryz.f39, Tryz.func39, by kernel_rfl, rfl, rfl, by kernel_rfl⟩, by kernel_rfl⟩
def phiL_laws_toClaimWant (N : Nat) : List (Nat × Summ) := [(85, sm_laws_toStringS N), (112, sm_laws_toClaimUseS N)]
def sg_laws_toClaimWant : Summ := sigOf [.d tWant true] false [.own tWant true [(9, none), (82, none), (9, none), (9, none)]]
theorem run_laws_toClaimWant (N : Nat) (a : (Int) × ((Int) × ((List Txt) × ((List ((List UInt8) × ((Int) × (Int)))) × ((List Txt) × (List Txt)))))) : runST (ofDs [tWant]) (tabOf tabL) (tabS (phiL_laws_toClaimWant N)) inl0 N fi_laws_toClaimWant sg_laws_toClaimWant [⟨tWant, a⟩] = F.laws_toClaimWant N a := by kernel_rfl
def sm_laws_toClaimWant (N : Nat) : Summ := summOf [.d tWant true] false [.own tWant true [(9, none), (82, none), (9, none), (9, none)]] [tWant] (F.laws_toClaimWant N)
theorem con_laws_toClaimWant (N : Nat) : Contract Tryz.prog 39 (sm_laws_toClaimWant N) := con_of (N := N) tabOK mixed (callOK_list (l := phiL_laws_toClaimWant N) (allc rfl (con_laws_toStringS N) (allc rfl (con_laws_toClaimUseS N) trivial))) (inl0_ok _) ok_laws_toClaimWant (by decide) fun a => run_laws_toClaimWant N a
def an_laws_toClaimPart : Nat → Option Ann := fun _ => none
noncomputable def fi_laws_toClaimPart : FI := ⟨Tryz.f151.results.toList, bodyOf Tryz.f151.body, Tryz.f151.ntmps, an_laws_toClaimPart⟩
theorem ok_laws_toClaimPart : FnOK Tryz.prog 151 fi_laws_toClaimPart := ⟨⟨Tryz.f151, Tryz.func151, by kernel_rfl, rfl, rfl, by kernel_rfl⟩, by kernel_rfl⟩
def phiL_laws_toClaimPart (N : Nat) : List (Nat × Summ) := [(39, sm_laws_toClaimWant N)]
def sg_laws_toClaimPart : Summ := sigOf [.d tPart true] false [.own tPart true [(9, none), (82, none), (9, none), (9, none)]]
theorem run_laws_toClaimPart (N : Nat) (a : ((Int) × ((Int) × ((List Txt) × ((List ((List UInt8) × ((Int) × (Int)))) × ((List Txt) × (List Txt)))))) × (Bool)) : runST (ofDs [tPart]) (tabOf tabL) (tabS (phiL_laws_toClaimPart N)) inl0 N fi_laws_toClaimPart sg_laws_toClaimPart [⟨tPart, a⟩] = F.laws_toClaimPart N a := by kernel_rfl
def sm_laws_toClaimPart (N : Nat) : Summ := summOf [.d tPart true] false [.own tPart true [(9, none), (82, none), (9, none), (9, none)]] [tPart] (F.laws_toClaimPart N)
theorem con_laws_toClaimPart (N : Nat) : Contract Tryz.prog 151 (sm_laws_toClaimPart N) := con_of (N := N) tabOK mixed (callOK_list (l := phiL_laws_toClaimPart N) (allc rfl (con_laws_toClaimWant N) trivial)) (inl0_ok _) ok_laws_toClaimPart (by decide) fun a => run_laws_toClaimPart N a
def an_laws_toClaimPartS : Nat → Option Ann
  | 0 => some ⟨{ fr := [(0, Dir.keep), (3, Dir.dow 700003 94 [9, 82, 9, 9] tPart), (4, Dir.keep)], bx := [], os := [] }, [(0, { fr := [(3, Dir.dow 700003 94 [9, 82, 9, 9] tPart)], bx := [], os := [] })], ⟨[], [], []⟩⟩
  | _ => none
noncomputable def fi_laws_toClaimPartS : FI := ⟨Tryz.f86.results.toList, bodyOf Tryz.f86.body, Tryz.f86.ntmps, an_laws_toClaimPartS⟩
theorem ok_laws_toClaimPartS : FnOK Tryz.prog 86 fi_laws_toClaimPartS := ⟨⟨Tryz.f86, Tryz.func86, by kernel_rfl, rfl, rfl, by kernel_rfl⟩, by kernel_rfl⟩
def phiL_laws_toClaimPartS (N : Nat) : List (Nat × Summ) := [(151, sm_laws_toClaimPart N)]
def sg_laws_toClaimPartS : Summ := sigOf [.d (.slice tPart) false] false [.own (.slice tPart) false [(94, (some [9, 82, 9, 9]))]]
def S_laws_toClaimPartS_0 (a : List Part) (i4 : Int) (out3a : List Part) : St := { fr := [(0, AV.w (V1.one (C.v tPart.slice a))), (3, AV.w (V1.one (C.arr 700003))), (4, AV.w (V1.one (C.v tInt i4)))], H := [(700003, Ob.arr 94 tPart out3a (Dp.yes [9, 82, 9, 9]))] }
noncomputable def E_laws_toClaimPartS (N : Nat) : Env := envOf (tabOf tabL) (tabS (phiL_laws_toClaimPartS N)) inl0 N fi_laws_toClaimPartS []
noncomputable def K_laws_toClaimPartS := (kFun (tabOf tabL) fi_laws_toClaimPartS.res (kT (ofDs [.slice tPart]) sg_laws_toClaimPartS []))
noncomputable def its_laws_toClaimPartS_0 (N : Nat) (n : Nat) : St → Option (List Part) := fun S' => iter [] (annAt fi_laws_toClaimPartS 0) (code (E_laws_toClaimPartS N) (lpIn fi_laws_toClaimPartS.body 0 0) 0) n S' (contOf (E_laws_toClaimPartS N) fi_laws_toClaimPartS.body 0 0 K_laws_toClaimPartS)
noncomputable def it_laws_toClaimPartS_0 (N : Nat) (a : List Part) (n : Nat) : Int → (List Part) → Option (List Part) := fun i4 out3a => its_laws_toClaimPartS_0 N n (S_laws_toClaimPartS_0 a i4 out3a)
theorem fe_laws_toClaimPartS_0 (N : Nat) : it_laws_toClaimPartS_0 N = laws_toClaimPartS_0 N := funext fun a => funext (lp_all (by kernel_rfl) fun n => by
    show _ = laws_toClaimPartS_0r N a (it_laws_toClaimPartS_0 N a n)
    kernel_rfl)
theorem run_laws_toClaimPartS (N : Nat) (a : List (((Int) × ((Int) × ((List Txt) × ((List ((List UInt8) × ((Int) × (Int)))) × ((List Txt) × (List Txt)))))) × (Bool))) : runST (ofDs [.slice tPart]) (tabOf tabL) (tabS (phiL_laws_toClaimPartS N)) inl0 N fi_laws_toClaimPartS sg_laws_toClaimPartS [⟨.slice tPart, a⟩] = F.laws_toClaimPartS N a := by
    show _ = F.laws_toClaimPartSb N (F.laws_toClaimPartS_0 N) a
    rw [← fe_laws_toClaimPartS_0 N]
    kernel_rfl
def sm_laws_toClaimPartS (N : Nat) : Summ := summOf [.d (.slice tPart) false] false [.own (.slice tPart) false [(94, (some [9, 82, 9, 9]))]] [.slice tPart] (F.laws_toClaimPartS N)
theorem con_laws_toClaimPartS (N : Nat) : Contract Tryz.prog 86 (sm_laws_toClaimPartS N) := con_of (N := N) tabOK mixed (callOK_list (l := phiL_laws_toClaimPartS N) (allc rfl (con_laws_toClaimPart N) trivial)) (inl0_ok _) ok_laws_toClaimPartS (by decide) fun a => run_laws_toClaimPartS N a
def an_laws_toClaimBook : Nat → Option Ann := fun _ => none
noncomputable def fi_laws_toClaimBook : FI := ⟨Tryz.f25.results.toList, bodyOf Tryz.f25.body, Tryz.f25.ntmps, an_laws_toClaimBook⟩
theorem ok_laws_toClaimBook : FnOK Tryz.prog 25 fi_laws_toClaimBook := ⟨⟨Tryz.f25, Tryz.func25, by kernel_rfl, rfl, rfl, by kernel_rfl⟩, by kernel_rfl⟩
def phiL_laws_toClaimBook (N : Nat) : List (Nat × Summ) := [(83, sm_laws_toClaimFoeS N), (84, sm_laws_toClaimSpotS N), (85, sm_laws_toStringS N), (86, sm_laws_toClaimPartS N)]
def sg_laws_toClaimBook : Summ := sigOf [.d tBook true] false [.own tBook true [(106, none), (34, (some [9])), (9, none), (94, (some [9, 82, 9, 9]))]]
theorem run_laws_toClaimBook (N : Nat) (a : (List ((List UInt8) × (List UInt8))) × ((List ((List UInt8) × ((Int) × ((Int) × ((Int) × (List Txt)))))) × ((List Txt) × ((List (((Int) × ((Int) × ((List Txt) × ((List ((List UInt8) × ((Int) × (Int)))) × ((List Txt) × (List Txt)))))) × (Bool))) × (Int))))) : runST (ofDs [tBook]) (tabOf tabL) (tabS (phiL_laws_toClaimBook N)) inl0 N fi_laws_toClaimBook sg_laws_toClaimBook [⟨tBook, a⟩] = F.laws_toClaimBook N a := by kernel_rfl
def sm_laws_toClaimBook (N : Nat) : Summ := summOf [.d tBook true] false [.own tBook true [(106, none), (34, (some [9])), (9, none), (94, (some [9, 82, 9, 9]))]] [tBook] (F.laws_toClaimBook N)
theorem con_laws_toClaimBook (N : Nat) : Contract Tryz.prog 25 (sm_laws_toClaimBook N) := con_of (N := N) tabOK mixed (callOK_list (l := phiL_laws_toClaimBook N) (allc rfl (con_laws_toClaimFoeS N) (allc rfl (con_laws_toClaimSpotS N) (allc rfl (con_laws_toStringS N) (allc rfl (con_laws_toClaimPartS N) trivial))))) (inl0_ok _) ok_laws_toClaimBook (by decide) fun a => run_laws_toClaimBook N a
def an_spec_l1In : Nat → Option Ann := fun _ => none
noncomputable def fi_spec_l1In : FI := ⟨Tryz.f67.results.toList, bodyOf Tryz.f67.body, Tryz.f67.ntmps, an_spec_l1In⟩
theorem ok_spec_l1In : FnOK Tryz.prog 67 fi_spec_l1In := ⟨⟨Tryz.f67, Tryz.func67, by kernel_rfl, rfl, rfl, by kernel_rfl⟩, by kernel_rfl⟩
def phiL_spec_l1In (N : Nat) : List (Nat × Summ) := []
def sg_spec_l1In : Summ := sigOf [.d tInt false, .d tInt false, .d tInt false] false [.d (.bool) false]
theorem run_spec_l1In (N : Nat) (n : Int) (low : Int) (high : Int) : runST (ofDs [.bool]) (tabOf tabL) (tabS (phiL_spec_l1In N)) inl0 N fi_spec_l1In sg_spec_l1In [⟨tInt, n⟩, ⟨tInt, low⟩, ⟨tInt, high⟩] = F.spec_l1In N n low high := by kernel_rfl
def sm_spec_l1In (N : Nat) : Summ := summOf [.d tInt false, .d tInt false, .d tInt false] false [.d (.bool) false] [.bool] (F.spec_l1In N)
theorem con_spec_l1In (N : Nat) : Contract Tryz.prog 67 (sm_spec_l1In N) := con_of (N := N) tabOK mixed (callOK_list (l := phiL_spec_l1In N) trivial) (inl0_ok _) ok_spec_l1In (by decide) fun n low high => run_spec_l1In N n low high
def an_spec_l1NameOk : Nat → Option Ann
  | 0 => some ⟨{ fr := [(0, Dir.keep), (3, Dir.keep)], bx := [], os := [] }, [(0, { fr := [], bx := [], os := [] })], { fr := [(2, Dir.keep)], bx := [], os := [] }⟩
  | _ => none
noncomputable def fi_spec_l1NameOk : FI := ⟨Tryz.f172.results.toList, bodyOf Tryz.f172.body, Tryz.f172.ntmps, an_spec_l1NameOk⟩
theorem ok_spec_l1NameOk : FnOK Tryz.prog 172 fi_spec_l1NameOk := ⟨⟨Tryz.f172, Tryz.func172, by kernel_rfl, rfl, rfl, by kernel_rfl⟩, by kernel_rfl⟩
def phiL_spec_l1NameOk (N : Nat) : List (Nat × Summ) := [(67, sm_spec_l1In N)]
def sg_spec_l1NameOk : Summ := sigOf [.d (.str) false] false [.d (.bool) false]
def S_spec_l1NameOk_0 (s : Txt) (i3 : Int) : St := { fr := [(0, AV.w (V1.one (C.v Ty.str s))), (3, AV.w (V1.one (C.v tInt i3)))], H := [] }
noncomputable def E_spec_l1NameOk (N : Nat) : Env := envOf (tabOf tabL) (tabS (phiL_spec_l1NameOk N)) inl0 N fi_spec_l1NameOk []
noncomputable def K_spec_l1NameOk := (kFun (tabOf tabL) fi_spec_l1NameOk.res (kT (ofDs [.bool]) sg_spec_l1NameOk []))
noncomputable def its_spec_l1NameOk_0 (N : Nat) (n : Nat) : St → Option Bool := fun S' => iter [] (annAt fi_spec_l1NameOk 0) (code (E_spec_l1NameOk N) (lpIn fi_spec_l1NameOk.body 0 0) 0) n S' (contOf (E_spec_l1NameOk N) fi_spec_l1NameOk.body 0 0 K_spec_l1NameOk)
noncomputable def it_spec_l1NameOk_0 (N : Nat) (s : Txt) (n : Nat) : Int → Option Bool := fun i3 => its_spec_l1NameOk_0 N n (S_spec_l1NameOk_0 s i3)
theorem fe_spec_l1NameOk_0 (N : Nat) : it_spec_l1NameOk_0 N = spec_l1NameOk_0 N := funext fun s => funext (lp_all (by kernel_rfl) fun n => by
    show _ = spec_l1NameOk_0r N s (it_spec_l1NameOk_0 N s n)
    kernel_rfl)
theorem run_spec_l1NameOk (N : Nat) (s : List UInt8) : runST (ofDs [.bool]) (tabOf tabL) (tabS (phiL_spec_l1NameOk N)) inl0 N fi_spec_l1NameOk sg_spec_l1NameOk [⟨.str, s⟩] = F.spec_l1NameOk N s := by
    show _ = F.spec_l1NameOkb N (F.spec_l1NameOk_0 N) s
    rw [← fe_spec_l1NameOk_0 N]
    kernel_rfl
def sm_spec_l1NameOk (N : Nat) : Summ := summOf [.d (.str) false] false [.d (.bool) false] [.bool] (F.spec_l1NameOk N)
theorem con_spec_l1NameOk (N : Nat) : Contract Tryz.prog 172 (sm_spec_l1NameOk N) := con_of (N := N) tabOK mixed (callOK_list (l := phiL_spec_l1NameOk N) (allc rfl (con_spec_l1In N) trivial)) (inl0_ok _) ok_spec_l1NameOk (by decide) fun s => run_spec_l1NameOk N s
def an_spec_l2FoesOk : Nat → Option Ann
  | 0 => some ⟨{ fr := [(1, Dir.keep), (3, Dir.keep)], bx := [(1, [Dir.keep, Dir.keep, Dir.keep, Dir.keep, Dir.keep])], os := [] }, [(0, { fr := [], bx := [], os := [] })], { fr := [(2, Dir.keep)], bx := [], os := [] }⟩
  | _ => none
noncomputable def fi_spec_l2FoesOk : FI := ⟨Tryz.f121.results.toList, bodyOf Tryz.f121.body, Tryz.f121.ntmps, an_spec_l2FoesOk⟩
theorem ok_spec_l2FoesOk : FnOK Tryz.prog 121 fi_spec_l2FoesOk := ⟨⟨Tryz.f121, Tryz.func121, by kernel_rfl, rfl, rfl, by kernel_rfl⟩, by kernel_rfl⟩
def phiL_spec_l2FoesOk (N : Nat) : List (Nat × Summ) := [(172, sm_spec_l1NameOk N)]
def sg_spec_l2FoesOk : Summ := sigOf [.d tBook true] false [.d (.bool) false]
def S_spec_l2FoesOk_0 (b : Book) (i3 : Int) : St := { fr := [(1, AV.w (V1.one (C.pb 1 0))), (3, AV.w (V1.one (C.v tInt i3)))], H := [(1, Ob.box [C.v tFoe.slice b.1, C.v tSpot.slice b.2.1, C.v tTxts b.2.2.1, C.v tPart.slice b.2.2.2.1, C.v tInt b.2.2.2.2])] }
noncomputable def E_spec_l2FoesOk (N : Nat) : Env := envOf (tabOf tabL) (tabS (phiL_spec_l2FoesOk N)) inl0 N fi_spec_l2FoesOk []
noncomputable def K_spec_l2FoesOk := (kFun (tabOf tabL) fi_spec_l2FoesOk.res (kT (ofDs [.bool]) sg_spec_l2FoesOk []))
noncomputable def its_spec_l2FoesOk_0 (N : Nat) (n : Nat) : St → Option Bool := fun S' => iter [] (annAt fi_spec_l2FoesOk 0) (code (E_spec_l2FoesOk N) (lpIn fi_spec_l2FoesOk.body 0 0) 0) n S' (contOf (E_spec_l2FoesOk N) fi_spec_l2FoesOk.body 0 0 K_spec_l2FoesOk)
noncomputable def it_spec_l2FoesOk_0 (N : Nat) (b : Book) (n : Nat) : Int → Option Bool := fun i3 => its_spec_l2FoesOk_0 N n (S_spec_l2FoesOk_0 b i3)
theorem fe_spec_l2FoesOk_0 (N : Nat) : it_spec_l2FoesOk_0 N = spec_l2FoesOk_0 N := funext fun b => funext (lp_all (by kernel_rfl) fun n => by
    show _ = spec_l2FoesOk_0r N b (it_spec_l2FoesOk_0 N b n)
    kernel_rfl)
theorem run_spec_l2FoesOk (N : Nat) (b : (List ((List UInt8) × (List UInt8))) × ((List ((List UInt8) × ((Int) × ((Int) × ((Int) × (List Txt)))))) × ((List Txt) × ((List (((Int) × ((Int) × ((List Txt) × ((List ((List UInt8) × ((Int) × (Int)))) × ((List Txt) × (List Txt)))))) × (Bool))) × (Int))))) : runST (ofDs [.bool]) (tabOf tabL) (tabS (phiL_spec_l2FoesOk N)) inl0 N fi_spec_l2FoesOk sg_spec_l2FoesOk [⟨tBook, b⟩] = F.spec_l2FoesOk N b := by
    show _ = F.spec_l2FoesOkb N (F.spec_l2FoesOk_0 N) b
    rw [← fe_spec_l2FoesOk_0 N]
    kernel_rfl
def sm_spec_l2FoesOk (N : Nat) : Summ := summOf [.d tBook true] false [.d (.bool) false] [.bool] (F.spec_l2FoesOk N)
theorem con_spec_l2FoesOk (N : Nat) : Contract Tryz.prog 121 (sm_spec_l2FoesOk N) := con_of (N := N) tabOK mixed (callOK_list (l := phiL_spec_l2FoesOk N) (allc rfl (con_spec_l1NameOk N) trivial)) (inl0_ok _) ok_spec_l2FoesOk (by decide) fun b => run_spec_l2FoesOk N b
def an_spec_l1NamesOk : Nat → Option Ann
  | 0 => some ⟨{ fr := [(0, Dir.keep), (5, Dir.keep)], bx := [], os := [] }, [(0, { fr := [], bx := [], os := [] })], { fr := [(4, Dir.keep)], bx := [], os := [] }⟩
  | _ => none
noncomputable def fi_spec_l1NamesOk : FI := ⟨Tryz.f122.results.toList, bodyOf Tryz.f122.body, Tryz.f122.ntmps, an_spec_l1NamesOk⟩
theorem ok_spec_l1NamesOk : FnOK Tryz.prog 122 fi_spec_l1NamesOk := ⟨⟨Tryz.f122, Tryz.func122, by kernel_rfl, rfl, rfl, by kernel_rfl⟩, by kernel_rfl⟩
def phiL_spec_l1NamesOk (N : Nat) : List (Nat × Summ) := [(172, sm_spec_l1NameOk N)]
def sg_spec_l1NamesOk : Summ := sigOf [.d tTxts false, .d tInt false] false [.d (.bool) false]
def S_spec_l1NamesOk_0 (list : List Txt) (i5 : Int) : St := { fr := [(0, AV.w (V1.one (C.v tTxts list))), (5, AV.w (V1.one (C.v tInt i5)))], H := [] }
noncomputable def E_spec_l1NamesOk (N : Nat) : Env := envOf (tabOf tabL) (tabS (phiL_spec_l1NamesOk N)) inl0 N fi_spec_l1NamesOk []
noncomputable def K_spec_l1NamesOk := (kFun (tabOf tabL) fi_spec_l1NamesOk.res (kT (ofDs [.bool]) sg_spec_l1NamesOk []))
noncomputable def its_spec_l1NamesOk_0 (N : Nat) (n : Nat) : St → Option Bool := fun S' => iter [] (annAt fi_spec_l1NamesOk 0) (code (E_spec_l1NamesOk N) (lpIn fi_spec_l1NamesOk.body 0 0) 0) n S' (contOf (E_spec_l1NamesOk N) fi_spec_l1NamesOk.body 0 0 K_spec_l1NamesOk)
noncomputable def it_spec_l1NamesOk_0 (N : Nat) (list : List Txt) (n : Nat) : Int → Option Bool := fun i5 => its_spec_l1NamesOk_0 N n (S_spec_l1NamesOk_0 list i5)
theorem fe_spec_l1NamesOk_0 (N : Nat) : it_spec_l1NamesOk_0 N = spec_l1NamesOk_0 N := funext fun list => funext (lp_all (by kernel_rfl) fun n => by
    show _ = spec_l1NamesOk_0r N list (it_spec_l1NamesOk_0 N list n)
    kernel_rfl)
theorem run_spec_l1NamesOk (N : Nat) (list : List (List UInt8)) (most : Int) : runST (ofDs [.bool]) (tabOf tabL) (tabS (phiL_spec_l1NamesOk N)) inl0 N fi_spec_l1NamesOk sg_spec_l1NamesOk [⟨tTxts, list⟩, ⟨tInt, most⟩] = F.spec_l1NamesOk N list most := by
    show _ = F.spec_l1NamesOkb N (F.spec_l1NamesOk_0 N) list most
    rw [← fe_spec_l1NamesOk_0 N]
    kernel_rfl
def sm_spec_l1NamesOk (N : Nat) : Summ := summOf [.d tTxts false, .d tInt false] false [.d (.bool) false] [.bool] (F.spec_l1NamesOk N)
theorem con_spec_l1NamesOk (N : Nat) : Contract Tryz.prog 122 (sm_spec_l1NamesOk N) := con_of (N := N) tabOK mixed (callOK_list (l := phiL_spec_l1NamesOk N) (allc rfl (con_spec_l1NameOk N) trivial)) (inl0_ok _) ok_spec_l1NamesOk (by decide) fun list most => run_spec_l1NamesOk N list most
def an_spec_l2Foes : Nat → Option Ann
  | 0 => some ⟨{ fr := [(1, Dir.keep), (2, Dir.keep), (3, Dir.keep), (7, Dir.keep)], bx := [(3, [Dir.keep, Dir.keep, Dir.keep, Dir.keep, Dir.keep])], os := [] }, [(0, { fr := [], bx := [], os := [] })], { fr := [(6, Dir.keep)], bx := [], os := [] }⟩
  | _ => none
noncomputable def fi_spec_l2Foes : FI := ⟨Tryz.f180.results.toList, bodyOf Tryz.f180.body, Tryz.f180.ntmps, an_spec_l2Foes⟩
theorem ok_spec_l2Foes : FnOK Tryz.prog 180 fi_spec_l2Foes := ⟨⟨Tryz.f180, Tryz.func180, by kernel_rfl, rfl, rfl, by kernel_rfl⟩, by kernel_rfl⟩
def phiL_spec_l2Foes (N : Nat) : List (Nat × Summ) := []
def sg_spec_l2Foes : Summ := sigOf [.d tBook true, .d (.str) false, .d (.str) false] false [.d (.bool) false]
def S_spec_l2Foes_0 (b : Book) (x : Txt) (y : Txt) (i7 : Int) : St := { fr := [(1, AV.w (V1.one (C.v Ty.str x))), (2, AV.w (V1.one (C.v Ty.str y))), (3, AV.w (V1.one (C.pb 3 0))), (7, AV.w (V1.one (C.v tInt i7)))], H := [(3, Ob.box [C.v tFoe.slice b.1, C.v tSpot.slice b.2.1, C.v tTxts b.2.2.1, C.v tPart.slice b.2.2.2.1, C.v tInt b.2.2.2.2])] }
noncomputable def E_spec_l2Foes (N : Nat) : Env := envOf (tabOf tabL) (tabS (phiL_spec_l2Foes N)) inl0 N fi_spec_l2Foes []
noncomputable def K_spec_l2Foes := (kFun (tabOf tabL) fi_spec_l2Foes.res (kT (ofDs [.bool]) sg_spec_l2Foes []))
noncomputable def its_spec_l2Foes_0 (N : Nat) (n : Nat) : St → Option Bool := fun S' => iter [] (annAt fi_spec_l2Foes 0) (code (E_spec_l2Foes N) (lpIn fi_spec_l2Foes.body 0 0) 0) n S' (contOf (E_spec_l2Foes N) fi_spec_l2Foes.body 0 0 K_spec_l2Foes)
noncomputable def it_spec_l2Foes_0 (N : Nat) (b : Book) (x : Txt) (y : Txt) (n : Nat) : Int → Option Bool := fun i7 => its_spec_l2Foes_0 N n (S_spec_l2Foes_0 b x y i7)
theorem fe_spec_l2Foes_0 (N : Nat) : it_spec_l2Foes_0 N = spec_l2Foes_0 N := funext fun b => funext fun x => funext fun y => funext (lp_all (by kernel_rfl) fun n => by
    show _ = spec_l2Foes_0r N b x y (it_spec_l2Foes_0 N b x y n)
    kernel_rfl)
theorem run_spec_l2Foes (N : Nat) (b : (List ((List UInt8) × (List UInt8))) × ((List ((List UInt8) × ((Int) × ((Int) × ((Int) × (List Txt)))))) × ((List Txt) × ((List (((Int) × ((Int) × ((List Txt) × ((List ((List UInt8) × ((Int) × (Int)))) × ((List Txt) × (List Txt)))))) × (Bool))) × (Int))))) (x : List UInt8) (y : List UInt8) : runST (ofDs [.bool]) (tabOf tabL) (tabS (phiL_spec_l2Foes N)) inl0 N fi_spec_l2Foes sg_spec_l2Foes [⟨tBook, b⟩, ⟨.str, x⟩, ⟨.str, y⟩] = F.spec_l2Foes N b x y := by
    show _ = F.spec_l2Foesb N (F.spec_l2Foes_0 N) b x y
    rw [← fe_spec_l2Foes_0 N]
    kernel_rfl
def sm_spec_l2Foes (N : Nat) : Summ := summOf [.d tBook true, .d (.str) false, .d (.str) false] false [.d (.bool) false] [.bool] (F.spec_l2Foes N)
theorem con_spec_l2Foes (N : Nat) : Contract Tryz.prog 180 (sm_spec_l2Foes N) := con_of (N := N) tabOK mixed (callOK_list (l := phiL_spec_l2Foes N) trivial) (inl0_ok _) ok_spec_l2Foes (by decide) fun b x y => run_spec_l2Foes N b x y
def an_spec_l2Clash : Nat → Option Ann
  | 0 => some ⟨{ fr := [(1, Dir.keep), (2, Dir.keep), (3, Dir.keep), (7, Dir.keep)], bx := [(3, [Dir.keep, Dir.keep, Dir.keep, Dir.keep, Dir.keep])], os := [] }, [(0, { fr := [], bx := [], os := [] })], { fr := [(6, Dir.keep)], bx := [], os := [] }⟩
  | _ => none
noncomputable def fi_spec_l2Clash : FI := ⟨Tryz.f173.results.toList, bodyOf Tryz.f173.body, Tryz.f173.ntmps, an_spec_l2Clash⟩
theorem ok_spec_l2Clash : FnOK Tryz.prog 173 fi_spec_l2Clash := ⟨⟨Tryz.f173, Tryz.func173, by kernel_rfl, rfl, rfl, by kernel_rfl⟩, by kernel_rfl⟩
def phiL_spec_l2Clash (N : Nat) : List (Nat × Summ) := [(180, sm_spec_l2Foes N)]
def sg_spec_l2Clash : Summ := sigOf [.d tBook true, .d (.str) false, .d tTxts false] false [.d (.bool) false]
def S_spec_l2Clash_0 (b : Book) (stuff : Txt) (may : List Txt) (i7 : Int) : St := { fr := [(1, AV.w (V1.one (C.v Ty.str stuff))), (2, AV.w (V1.one (C.v tTxts may))), (3, AV.w (V1.one (C.pb 3 0))), (7, AV.w (V1.one (C.v tInt i7)))], H := [(3, Ob.box [C.v tFoe.slice b.1, C.v tSpot.slice b.2.1, C.v tTxts b.2.2.1, C.v tPart.slice b.2.2.2.1, C.v tInt b.2.2.2.2])] }
noncomputable def E_spec_l2Clash (N : Nat) : Env := envOf (tabOf tabL) (tabS (phiL_spec_l2Clash N)) inl0 N fi_spec_l2Clash []
noncomputable def K_spec_l2Clash := (kFun (tabOf tabL) fi_spec_l2Clash.res (kT (ofDs [.bool]) sg_spec_l2Clash []))
noncomputable def its_spec_l2Clash_0 (N : Nat) (n : Nat) : St → Option Bool := fun S' => iter [] (annAt fi_spec_l2Clash 0) (code (E_spec_l2Clash N) (lpIn fi_spec_l2Clash.body 0 0) 0) n S' (contOf (E_spec_l2Clash N) fi_spec_l2Clash.body 0 0 K_spec_l2Clash)
noncomputable def it_spec_l2Clash_0 (N : Nat) (b : Book) (stuff : Txt) (may : List Txt) (n : Nat) : Int → Option Bool := fun i7 => its_spec_l2Clash_0 N n (S_spec_l2Clash_0 b stuff may i7)
theorem fe_spec_l2Clash_0 (N : Nat) : it_spec_l2Clash_0 N = spec_l2Clash_0 N := funext fun b => funext fun stuff => funext fun may => funext (lp_all (by kernel_rfl) fun n => by
    show _ = spec_l2Clash_0r N b stuff may (it_spec_l2Clash_0 N b stuff may n)
    kernel_rfl)
theorem run_spec_l2Clash (N : Nat) (b : (List ((List UInt8) × (List UInt8))) × ((List ((List UInt8) × ((Int) × ((Int) × ((Int) × (List Txt)))))) × ((List Txt) × ((List (((Int) × ((Int) × ((List Txt) × ((List ((List UInt8) × ((Int) × (Int)))) × ((List Txt) × (List Txt)))))) × (Bool))) × (Int))))) (stuff : List UInt8) (may : List (List UInt8)) : runST (ofDs [.bool]) (tabOf tabL) (tabS (phiL_spec_l2Clash N)) inl0 N fi_spec_l2Clash sg_spec_l2Clash [⟨tBook, b⟩, ⟨.str, stuff⟩, ⟨tTxts, may⟩] = F.spec_l2Clash N b stuff may := by
    show _ = F.spec_l2Clashb N (F.spec_l2Clash_0 N) b stuff may
    rw [← fe_spec_l2Clash_0 N]
    kernel_rfl
def sm_spec_l2Clash (N : Nat) : Summ := summOf [.d tBook true, .d (.str) false, .d tTxts false] false [.d (.bool) false] [.bool] (F.spec_l2Clash N)
theorem con_spec_l2Clash (N : Nat) : Contract Tryz.prog 173 (sm_spec_l2Clash N) := con_of (N := N) tabOK mixed (callOK_list (l := phiL_spec_l2Clash N) (allc rfl (con_spec_l2Foes N) trivial)) (inl0_ok _) ok_spec_l2Clash (by decide) fun b stuff may => run_spec_l2Clash N b stuff may
def an_spec_l2SpotOk : Nat → Option Ann
  | 0 => some ⟨{ fr := [(2, Dir.keep), (3, Dir.keep), (5, Dir.keep)], bx := [(2, [Dir.keep, Dir.keep, Dir.keep, Dir.keep, Dir.keep]), (3, [Dir.keep, Dir.keep, Dir.keep, Dir.keep, Dir.keep])], os := [] }, [(0, { fr := [], bx := [], os := [] })], { fr := [(4, Dir.keep)], bx := [], os := [] }⟩
  | _ => none
noncomputable def fi_spec_l2SpotOk : FI := ⟨Tryz.f123.results.toList, bodyOf Tryz.f123.body, Tryz.f123.ntmps, an_spec_l2SpotOk⟩
theorem ok_spec_l2SpotOk : FnOK Tryz.prog 123 fi_spec_l2SpotOk := ⟨⟨Tryz.f123, Tryz.func123, by kernel_rfl, rfl, rfl, by kernel_rfl⟩, by kernel_rfl⟩
def phiL_spec_l2SpotOk (N : Nat) : List (Nat × Summ) := [(172, sm_spec_l1NameOk N), (67, sm_spec_l1In N), (122, sm_spec_l1NamesOk N), (173, sm_spec_l2Clash N)]
def sg_spec_l2SpotOk : Summ := sigOf [.d tBook true, .d tSpot true] false [.d (.bool) false]
def S_spec_l2SpotOk_0 (b : Book) (s : Spot) (i5 : Int) : St := { fr := [(2, AV.w (V1.one (C.pb 2 0))), (3, AV.w (V1.one (C.pb 3 0))), (5, AV.w (V1.one (C.v tInt i5)))], H := [(2, Ob.box [C.v tFoe.slice b.1, C.v tSpot.slice b.2.1, C.v tTxts b.2.2.1, C.v tPart.slice b.2.2.2.1, C.v tInt b.2.2.2.2]), (3, Ob.box [C.v Ty.str s.1, C.v tInt s.2.1, C.v tInt s.2.2.1, C.v tInt s.2.2.2.1, C.v tTxts s.2.2.2.2])] }
noncomputable def E_spec_l2SpotOk (N : Nat) : Env := envOf (tabOf tabL) (tabS (phiL_spec_l2SpotOk N)) inl0 N fi_spec_l2SpotOk []
noncomputable def K_spec_l2SpotOk := (kFun (tabOf tabL) fi_spec_l2SpotOk.res (kT (ofDs [.bool]) sg_spec_l2SpotOk []))
noncomputable def its_spec_l2SpotOk_0 (N : Nat) (n : Nat) : St → Option Bool := fun S' => iter [] (annAt fi_spec_l2SpotOk 0) (code (E_spec_l2SpotOk N) (lpIn fi_spec_l2SpotOk.body 0 0) 0) n S' (contOf (E_spec_l2SpotOk N) fi_spec_l2SpotOk.body 0 0 K_spec_l2SpotOk)
noncomputable def it_spec_l2SpotOk_0 (N : Nat) (b : Book) (s : Spot) (n : Nat) : Int → Option Bool := fun i5 => its_spec_l2SpotOk_0 N n (S_spec_l2SpotOk_0 b s i5)
theorem fe_spec_l2SpotOk_0 (N : Nat) : it_spec_l2SpotOk_0 N = spec_l2SpotOk_0 N := funext fun b => funext fun s => funext (lp_all (by kernel_rfl) fun n => by
    show _ = spec_l2SpotOk_0r N b s (it_spec_l2SpotOk_0 N b s n)
    kernel_rfl)
theorem run_spec_l2SpotOk (N : Nat) (b : (List ((List UInt8) × (List UInt8))) × ((List ((List UInt8) × ((Int) × ((Int) × ((Int) × (List Txt)))))) × ((List Txt) × ((List (((Int) × ((Int) × ((List Txt) × ((List ((List UInt8) × ((Int) × (Int)))) × ((List Txt) × (List Txt)))))) × (Bool))) × (Int))))) (s : (List UInt8) × ((Int) × ((Int) × ((Int) × (List Txt))))) : runST (ofDs [.bool]) (tabOf tabL) (tabS (phiL_spec_l2SpotOk N)) inl0 N fi_spec_l2SpotOk sg_spec_l2SpotOk [⟨tBook, b⟩, ⟨tSpot, s⟩] = F.spec_l2SpotOk N b s := by
    show _ = F.spec_l2SpotOkb N (F.spec_l2SpotOk_0 N) b s
    rw [← fe_spec_l2SpotOk_0 N]
    kernel_rfl
def sm_spec_l2SpotOk (N : Nat) : Summ := summOf [.d tBook true, .d tSpot true] false [.d (.bool) false] [.bool] (F.spec_l2SpotOk N)
theorem con_spec_l2SpotOk (N : Nat) : Contract Tryz.prog 123 (sm_spec_l2SpotOk N) := con_of (N := N) tabOK mixed (callOK_list (l := phiL_spec_l2SpotOk N) (allc rfl (con_spec_l1NameOk N) (allc rfl (con_spec_l1In N) (allc rfl (con_spec_l1NamesOk N) (allc rfl (con_spec_l2Clash N) trivial))))) (inl0_ok _) ok_spec_l2SpotOk (by decide) fun b s => run_spec_l2SpotOk N b s
def an_spec_l1UsesOk : Nat → Option Ann
  | 0 => some ⟨{ fr := [(1, Dir.keep), (3, Dir.keep)], bx := [(1, [Dir.keep, Dir.keep, Dir.keep, Dir.keep, Dir.keep, Dir.keep])], os := [] }, [(0, { fr := [], bx := [], os := [] })], { fr := [(2, Dir.keep)], bx := [], os := [] }⟩
  | _ => none
noncomputable def fi_spec_l1UsesOk : FI := ⟨Tryz.f126.results.toList, bodyOf Tryz.f126.body, Tryz.f126.ntmps, an_spec_l1UsesOk⟩
theorem ok_spec_l1UsesOk : FnOK Tryz.prog 126 fi_spec_l1UsesOk := ⟨⟨Tryz.f126, Tryz.func126, by kernel_rfl, rfl, rfl, by kernel_rfl⟩, by kernel_rfl⟩
def phiL_spec_l1UsesOk (N : Nat) : List (Nat × Summ) := [(172, sm_spec_l1NameOk N), (67, sm_spec_l1In N)]
def sg_spec_l1UsesOk : Summ := sigOf [.d tWant true] false [.d (.bool) false]
def S_spec_l1UsesOk_0 (w : Want) (i3 : Int) : St := { fr := [(1, AV.w (V1.one (C.pb 1 0))), (3, AV.w (V1.one (C.v tInt i3)))], H := [(1, Ob.box [C.v tInt w.1, C.v tInt w.2.1, C.v tTxts w.2.2.1, C.v tUse.slice w.2.2.2.1, C.v tTxts w.2.2.2.2.1, C.v tTxts w.2.2.2.2.2])] }
noncomputable def E_spec_l1UsesOk (N : Nat) : Env := envOf (tabOf tabL) (tabS (phiL_spec_l1UsesOk N)) inl0 N fi_spec_l1UsesOk []
noncomputable def K_spec_l1UsesOk := (kFun (tabOf tabL) fi_spec_l1UsesOk.res (kT (ofDs [.bool]) sg_spec_l1UsesOk []))
noncomputable def its_spec_l1UsesOk_0 (N : Nat) (n : Nat) : St → Option Bool := fun S' => iter [] (annAt fi_spec_l1UsesOk 0) (code (E_spec_l1UsesOk N) (lpIn fi_spec_l1UsesOk.body 0 0) 0) n S' (contOf (E_spec_l1UsesOk N) fi_spec_l1UsesOk.body 0 0 K_spec_l1UsesOk)
noncomputable def it_spec_l1UsesOk_0 (N : Nat) (w : Want) (n : Nat) : Int → Option Bool := fun i3 => its_spec_l1UsesOk_0 N n (S_spec_l1UsesOk_0 w i3)
theorem fe_spec_l1UsesOk_0 (N : Nat) : it_spec_l1UsesOk_0 N = spec_l1UsesOk_0 N := funext fun w => funext (lp_all (by kernel_rfl) fun n => by
    show _ = spec_l1UsesOk_0r N w (it_spec_l1UsesOk_0 N w n)
    kernel_rfl)
theorem run_spec_l1UsesOk (N : Nat) (w : (Int) × ((Int) × ((List Txt) × ((List ((List UInt8) × ((Int) × (Int)))) × ((List Txt) × (List Txt)))))) : runST (ofDs [.bool]) (tabOf tabL) (tabS (phiL_spec_l1UsesOk N)) inl0 N fi_spec_l1UsesOk sg_spec_l1UsesOk [⟨tWant, w⟩] = F.spec_l1UsesOk N w := by
    show _ = F.spec_l1UsesOkb N (F.spec_l1UsesOk_0 N) w
    rw [← fe_spec_l1UsesOk_0 N]
    kernel_rfl
def sm_spec_l1UsesOk (N : Nat) : Summ := summOf [.d tWant true] false [.d (.bool) false] [.bool] (F.spec_l1UsesOk N)
theorem con_spec_l1UsesOk (N : Nat) : Contract Tryz.prog 126 (sm_spec_l1UsesOk N) := con_of (N := N) tabOK mixed (callOK_list (l := phiL_spec_l1UsesOk N) (allc rfl (con_spec_l1NameOk N) (allc rfl (con_spec_l1In N) trivial))) (inl0_ok _) ok_spec_l1UsesOk (by decide) fun w => run_spec_l1UsesOk N w
def an_spec_l1Has : Nat → Option Ann
  | 0 => some ⟨{ fr := [(0, Dir.keep), (1, Dir.keep), (5, Dir.keep)], bx := [], os := [] }, [(0, { fr := [], bx := [], os := [] })], { fr := [(4, Dir.keep)], bx := [], os := [] }⟩
  | _ => none
noncomputable def fi_spec_l1Has : FI := ⟨Tryz.f102.results.toList, bodyOf Tryz.f102.body, Tryz.f102.ntmps, an_spec_l1Has⟩
theorem ok_spec_l1Has : FnOK Tryz.prog 102 fi_spec_l1Has := ⟨⟨Tryz.f102, Tryz.func102, by kernel_rfl, rfl, rfl, by kernel_rfl⟩, by kernel_rfl⟩
def phiL_spec_l1Has (N : Nat) : List (Nat × Summ) := []
def sg_spec_l1Has : Summ := sigOf [.d tTxts false, .d (.str) false] false [.d (.bool) false]
def S_spec_l1Has_0 (list : List Txt) (name : Txt) (i5 : Int) : St := { fr := [(0, AV.w (V1.one (C.v tTxts list))), (1, AV.w (V1.one (C.v Ty.str name))), (5, AV.w (V1.one (C.v tInt i5)))], H := [] }
noncomputable def E_spec_l1Has (N : Nat) : Env := envOf (tabOf tabL) (tabS (phiL_spec_l1Has N)) inl0 N fi_spec_l1Has []
noncomputable def K_spec_l1Has := (kFun (tabOf tabL) fi_spec_l1Has.res (kT (ofDs [.bool]) sg_spec_l1Has []))
noncomputable def its_spec_l1Has_0 (N : Nat) (n : Nat) : St → Option Bool := fun S' => iter [] (annAt fi_spec_l1Has 0) (code (E_spec_l1Has N) (lpIn fi_spec_l1Has.body 0 0) 0) n S' (contOf (E_spec_l1Has N) fi_spec_l1Has.body 0 0 K_spec_l1Has)
noncomputable def it_spec_l1Has_0 (N : Nat) (list : List Txt) (name : Txt) (n : Nat) : Int → Option Bool := fun i5 => its_spec_l1Has_0 N n (S_spec_l1Has_0 list name i5)
theorem fe_spec_l1Has_0 (N : Nat) : it_spec_l1Has_0 N = spec_l1Has_0 N := funext fun list => funext fun name => funext (lp_all (by kernel_rfl) fun n => by
    show _ = spec_l1Has_0r N list name (it_spec_l1Has_0 N list name n)
    kernel_rfl)
theorem run_spec_l1Has (N : Nat) (list : List (List UInt8)) (name : List UInt8) : runST (ofDs [.bool]) (tabOf tabL) (tabS (phiL_spec_l1Has N)) inl0 N fi_spec_l1Has sg_spec_l1Has [⟨tTxts, list⟩, ⟨.str, name⟩] = F.spec_l1Has N list name := by
    show _ = F.spec_l1Hasb N (F.spec_l1Has_0 N) list name
    rw [← fe_spec_l1Has_0 N]
    kernel_rfl
def sm_spec_l1Has (N : Nat) : Summ := summOf [.d tTxts false, .d (.str) false] false [.d (.bool) false] [.bool] (F.spec_l1Has N)
theorem con_spec_l1Has (N : Nat) : Contract Tryz.prog 102 (sm_spec_l1Has N) := con_of (N := N) tabOK mixed (callOK_list (l := phiL_spec_l1Has N) trivial) (inl0_ok _) ok_spec_l1Has (by decide) fun list name => run_spec_l1Has N list name
def an_spec_l1Share : Nat → Option Ann
  | 0 => some ⟨{ fr := [(0, Dir.keep), (1, Dir.keep), (5, Dir.keep)], bx := [], os := [] }, [(0, { fr := [], bx := [], os := [] })], { fr := [(4, Dir.keep)], bx := [], os := [] }⟩
  | _ => none
noncomputable def fi_spec_l1Share : FI := ⟨Tryz.f107.results.toList, bodyOf Tryz.f107.body, Tryz.f107.ntmps, an_spec_l1Share⟩
theorem ok_spec_l1Share : FnOK Tryz.prog 107 fi_spec_l1Share := ⟨⟨Tryz.f107, Tryz.func107, by kernel_rfl, rfl, rfl, by kernel_rfl⟩, by kernel_rfl⟩
def phiL_spec_l1Share (N : Nat) : List (Nat × Summ) := [(102, sm_spec_l1Has N)]
def sg_spec_l1Share : Summ := sigOf [.d tTxts false, .d tTxts false] false [.d (.bool) false]
def S_spec_l1Share_0 (a : List Txt) (b : List Txt) (i5 : Int) : St := { fr := [(0, AV.w (V1.one (C.v tTxts a))), (1, AV.w (V1.one (C.v tTxts b))), (5, AV.w (V1.one (C.v tInt i5)))], H := [] }
noncomputable def E_spec_l1Share (N : Nat) : Env := envOf (tabOf tabL) (tabS (phiL_spec_l1Share N)) inl0 N fi_spec_l1Share []
noncomputable def K_spec_l1Share := (kFun (tabOf tabL) fi_spec_l1Share.res (kT (ofDs [.bool]) sg_spec_l1Share []))
noncomputable def its_spec_l1Share_0 (N : Nat) (n : Nat) : St → Option Bool := fun S' => iter [] (annAt fi_spec_l1Share 0) (code (E_spec_l1Share N) (lpIn fi_spec_l1Share.body 0 0) 0) n S' (contOf (E_spec_l1Share N) fi_spec_l1Share.body 0 0 K_spec_l1Share)
noncomputable def it_spec_l1Share_0 (N : Nat) (a : List Txt) (b : List Txt) (n : Nat) : Int → Option Bool := fun i5 => its_spec_l1Share_0 N n (S_spec_l1Share_0 a b i5)
theorem fe_spec_l1Share_0 (N : Nat) : it_spec_l1Share_0 N = spec_l1Share_0 N := funext fun a => funext fun b => funext (lp_all (by kernel_rfl) fun n => by
    show _ = spec_l1Share_0r N a b (it_spec_l1Share_0 N a b n)
    kernel_rfl)
theorem run_spec_l1Share (N : Nat) (a : List (List UInt8)) (b : List (List UInt8)) : runST (ofDs [.bool]) (tabOf tabL) (tabS (phiL_spec_l1Share N)) inl0 N fi_spec_l1Share sg_spec_l1Share [⟨tTxts, a⟩, ⟨tTxts, b⟩] = F.spec_l1Share N a b := by
    show _ = F.spec_l1Shareb N (F.spec_l1Share_0 N) a b
    rw [← fe_spec_l1Share_0 N]
    kernel_rfl
def sm_spec_l1Share (N : Nat) : Summ := summOf [.d tTxts false, .d tTxts false] false [.d (.bool) false] [.bool] (F.spec_l1Share N)
theorem con_spec_l1Share (N : Nat) : Contract Tryz.prog 107 (sm_spec_l1Share N) := con_of (N := N) tabOK mixed (callOK_list (l := phiL_spec_l1Share N) (allc rfl (con_spec_l1Has N) trivial)) (inl0_ok _) ok_spec_l1Share (by decide) fun a b => run_spec_l1Share N a b
def an_spec_ClaimWantOk : Nat → Option Ann := fun _ => none
noncomputable def fi_spec_ClaimWantOk : FI := ⟨Tryz.f47.results.toList, bodyOf Tryz.f47.body, Tryz.f47.ntmps, an_spec_ClaimWantOk⟩
theorem ok_spec_ClaimWantOk : FnOK Tryz.prog 47 fi_spec_ClaimWantOk := ⟨⟨Tryz.f47, Tryz.func47, by kernel_rfl, rfl, rfl, by kernel_rfl⟩, by kernel_rfl⟩
def phiL_spec_ClaimWantOk (N : Nat) : List (Nat × Summ) := [(67, sm_spec_l1In N), (126, sm_spec_l1UsesOk N), (122, sm_spec_l1NamesOk N), (107, sm_spec_l1Share N)]
def sg_spec_ClaimWantOk : Summ := sigOf [.d tWant true] false [.d (.bool) false]
theorem run_spec_ClaimWantOk (N : Nat) (w : (Int) × ((Int) × ((List Txt) × ((List ((List UInt8) × ((Int) × (Int)))) × ((List Txt) × (List Txt)))))) : runST (ofDs [.bool]) (tabOf tabL) (tabS (phiL_spec_ClaimWantOk N)) inl0 N fi_spec_ClaimWantOk sg_spec_ClaimWantOk [⟨tWant, w⟩] = F.spec_ClaimWantOk N w := by kernel_rfl
def sm_spec_ClaimWantOk (N : Nat) : Summ := summOf [.d tWant true] false [.d (.bool) false] [.bool] (F.spec_ClaimWantOk N)
theorem con_spec_ClaimWantOk (N : Nat) : Contract Tryz.prog 47 (sm_spec_ClaimWantOk N) := con_of (N := N) tabOK mixed (callOK_list (l := phiL_spec_ClaimWantOk N) (allc rfl (con_spec_l1In N) (allc rfl (con_spec_l1UsesOk N) (allc rfl (con_spec_l1NamesOk N) (allc rfl (con_spec_l1Share N) trivial))))) (inl0_ok _) ok_spec_ClaimWantOk (by decide) fun w => run_spec_ClaimWantOk N w
def an_spec_l2Spot : Nat → Option Ann
  | 0 => some ⟨{ fr := [(1, Dir.keep), (2, Dir.keep), (5, Dir.keep)], bx := [(2, [Dir.keep, Dir.keep, Dir.keep, Dir.keep, Dir.keep])], os := [] }, [(0, { fr := [], bx := [], os := [] })], { fr := [(4, Dir.keep)], bx := [], os := [] }⟩
  | _ => none
noncomputable def fi_spec_l2Spot : FI := ⟨Tryz.f62.results.toList, bodyOf Tryz.f62.body, Tryz.f62.ntmps, an_spec_l2Spot⟩
theorem ok_spec_l2Spot : FnOK Tryz.prog 62 fi_spec_l2Spot := ⟨⟨Tryz.f62, Tryz.func62, by kernel_rfl, rfl, rfl, by kernel_rfl⟩, by kernel_rfl⟩
def phiL_spec_l2Spot (N : Nat) : List (Nat × Summ) := []
def sg_spec_l2Spot : Summ := sigOf [.d tBook true, .d (.str) false] false [.d tInt false]
def S_spec_l2Spot_0 (b : Book) (name : Txt) (i5 : Int) : St := { fr := [(1, AV.w (V1.one (C.v Ty.str name))), (2, AV.w (V1.one (C.pb 2 0))), (5, AV.w (V1.one (C.v tInt i5)))], H := [(2, Ob.box [C.v tFoe.slice b.1, C.v tSpot.slice b.2.1, C.v tTxts b.2.2.1, C.v tPart.slice b.2.2.2.1, C.v tInt b.2.2.2.2])] }
noncomputable def E_spec_l2Spot (N : Nat) : Env := envOf (tabOf tabL) (tabS (phiL_spec_l2Spot N)) inl0 N fi_spec_l2Spot []
noncomputable def K_spec_l2Spot := (kFun (tabOf tabL) fi_spec_l2Spot.res (kT (ofDs [tInt]) sg_spec_l2Spot []))
noncomputable def its_spec_l2Spot_0 (N : Nat) (n : Nat) : St → Option Int := fun S' => iter [] (annAt fi_spec_l2Spot 0) (code (E_spec_l2Spot N) (lpIn fi_spec_l2Spot.body 0 0) 0) n S' (contOf (E_spec_l2Spot N) fi_spec_l2Spot.body 0 0 K_spec_l2Spot)
noncomputable def it_spec_l2Spot_0 (N : Nat) (b : Book) (name : Txt) (n : Nat) : Int → Option Int := fun i5 => its_spec_l2Spot_0 N n (S_spec_l2Spot_0 b name i5)
theorem fe_spec_l2Spot_0 (N : Nat) : it_spec_l2Spot_0 N = spec_l2Spot_0 N := funext fun b => funext fun name => funext (lp_all (by kernel_rfl) fun n => by
    show _ = spec_l2Spot_0r N b name (it_spec_l2Spot_0 N b name n)
    kernel_rfl)
theorem run_spec_l2Spot (N : Nat) (b : (List ((List UInt8) × (List UInt8))) × ((List ((List UInt8) × ((Int) × ((Int) × ((Int) × (List Txt)))))) × ((List Txt) × ((List (((Int) × ((Int) × ((List Txt) × ((List ((List UInt8) × ((Int) × (Int)))) × ((List Txt) × (List Txt)))))) × (Bool))) × (Int))))) (name : List UInt8) : runST (ofDs [tInt]) (tabOf tabL) (tabS (phiL_spec_l2Spot N)) inl0 N fi_spec_l2Spot sg_spec_l2Spot [⟨tBook, b⟩, ⟨.str, name⟩] = F.spec_l2Spot N b name := by
    show _ = F.spec_l2Spotb N (F.spec_l2Spot_0 N) b name
    rw [← fe_spec_l2Spot_0 N]
    kernel_rfl
def sm_spec_l2Spot (N : Nat) : Summ := summOf [.d tBook true, .d (.str) false] false [.d tInt false] [tInt] (F.spec_l2Spot N)
theorem con_spec_l2Spot (N : Nat) : Contract Tryz.prog 62 (sm_spec_l2Spot N) := con_of (N := N) tabOK mixed (callOK_list (l := phiL_spec_l2Spot N) trivial) (inl0_ok _) ok_spec_l2Spot (by decide) fun b name => run_spec_l2Spot N b name
def an_spec_l2Knows : Nat → Option Ann
  | 0 => some ⟨{ fr := [(2, Dir.keep), (3, Dir.keep), (5, Dir.keep)], bx := [(2, [Dir.keep, Dir.keep, Dir.keep, Dir.keep, Dir.keep]), (3, [Dir.keep, Dir.keep, Dir.keep, Dir.keep, Dir.keep, Dir.keep])], os := [] }, [(0, { fr := [(2, Dir.keep), (3, Dir.keep)], bx := [(2, [Dir.keep, Dir.keep, Dir.keep, Dir.keep, Dir.keep]), (3, [Dir.keep, Dir.keep, Dir.keep, Dir.keep, Dir.keep, Dir.keep])], os := [] })], { fr := [(4, Dir.keep)], bx := [], os := [] }⟩
  | 2 => some ⟨{ fr := [(2, Dir.keep), (3, Dir.keep), (6, Dir.keep)], bx := [(2, [Dir.keep, Dir.keep, Dir.keep, Dir.keep, Dir.keep]), (3, [Dir.keep, Dir.keep, Dir.keep, Dir.keep, Dir.keep, Dir.keep])], os := [] }, [(2, { fr := [(2, Dir.keep), (3, Dir.keep)], bx := [(2, [Dir.keep, Dir.keep, Dir.keep, Dir.keep, Dir.keep]), (3, [Dir.keep, Dir.keep, Dir.keep, Dir.keep, Dir.keep, Dir.keep])], os := [] })], { fr := [(4, Dir.keep)], bx := [], os := [] }⟩
  | 4 => some ⟨{ fr := [(2, Dir.keep), (3, Dir.keep), (7, Dir.keep)], bx := [(2, [Dir.keep, Dir.keep, Dir.keep, Dir.keep, Dir.keep]), (3, [Dir.keep, Dir.keep, Dir.keep, Dir.keep, Dir.keep, Dir.keep])], os := [] }, [(4, { fr := [], bx := [], os := [] })], { fr := [(4, Dir.keep)], bx := [], os := [] }⟩
  | _ => none
noncomputable def fi_spec_l2Knows : FI := ⟨Tryz.f105.results.toList, bodyOf Tryz.f105.body, Tryz.f105.ntmps, an_spec_l2Knows⟩
theorem ok_spec_l2Knows : FnOK Tryz.prog 105 fi_spec_l2Knows := ⟨⟨Tryz.f105, Tryz.func105, by kernel_rfl, rfl, rfl, by kernel_rfl⟩, by kernel_rfl⟩
def phiL_spec_l2Knows (N : Nat) : List (Nat × Summ) := [(62, sm_spec_l2Spot N), (102, sm_spec_l1Has N)]
def sg_spec_l2Knows : Summ := sigOf [.d tBook true, .d tWant true] false [.d (.bool) false]
def S_spec_l2Knows_4 (b : Book) (w : Want) (i7 : Int) : St := { fr := [(2, AV.w (V1.one (C.pb 2 0))), (3, AV.w (V1.one (C.pb 3 0))), (7, AV.w (V1.one (C.v tInt i7)))], H := [(2, Ob.box [C.v tFoe.slice b.1, C.v tSpot.slice b.2.1, C.v tTxts b.2.2.1, C.v tPart.slice b.2.2.2.1, C.v tInt b.2.2.2.2]), (3, Ob.box [C.v tInt w.1, C.v tInt w.2.1, C.v tTxts w.2.2.1, C.v tUse.slice w.2.2.2.1, C.v tTxts w.2.2.2.2.1, C.v tTxts w.2.2.2.2.2])] }
def S_spec_l2Knows_2 (b : Book) (w : Want) (i6 : Int) : St := { fr := [(2, AV.w (V1.one (C.pb 2 0))), (3, AV.w (V1.one (C.pb 3 0))), (6, AV.w (V1.one (C.v tInt i6)))], H := [(2, Ob.box [C.v tFoe.slice b.1, C.v tSpot.slice b.2.1, C.v tTxts b.2.2.1, C.v tPart.slice b.2.2.2.1, C.v tInt b.2.2.2.2]), (3, Ob.box [C.v tInt w.1, C.v tInt w.2.1, C.v tTxts w.2.2.1, C.v tUse.slice w.2.2.2.1, C.v tTxts w.2.2.2.2.1, C.v tTxts w.2.2.2.2.2])] }
def S_spec_l2Knows_0 (b : Book) (w : Want) (i5 : Int) : St := { fr := [(2, AV.w (V1.one (C.pb 2 0))), (3, AV.w (V1.one (C.pb 3 0))), (5, AV.w (V1.one (C.v tInt i5)))], H := [(2, Ob.box [C.v tFoe.slice b.1, C.v tSpot.slice b.2.1, C.v tTxts b.2.2.1, C.v tPart.slice b.2.2.2.1, C.v tInt b.2.2.2.2]), (3, Ob.box [C.v tInt w.1, C.v tInt w.2.1, C.v tTxts w.2.2.1, C.v tUse.slice w.2.2.2.1, C.v tTxts w.2.2.2.2.1, C.v tTxts w.2.2.2.2.2])] }
noncomputable def E_spec_l2Knows (N : Nat) : Env := envOf (tabOf tabL) (tabS (phiL_spec_l2Knows N)) inl0 N fi_spec_l2Knows []
noncomputable def K_spec_l2Knows := (kFun (tabOf tabL) fi_spec_l2Knows.res (kT (ofDs [.bool]) sg_spec_l2Knows []))
noncomputable def its_spec_l2Knows_4 (N : Nat) (n : Nat) : St → Option Bool := fun S' => iter [] (annAt fi_spec_l2Knows 4) (code (E_spec_l2Knows N) (lpIn fi_spec_l2Knows.body 0 4) 4) n S' (contOf (E_spec_l2Knows N) fi_spec_l2Knows.body 0 4 K_spec_l2Knows)
noncomputable def it_spec_l2Knows_4 (N : Nat) (b : Book) (w : Want) (n : Nat) : Int → Option Bool := fun i7 => its_spec_l2Knows_4 N n (S_spec_l2Knows_4 b w i7)
theorem fe_spec_l2Knows_4 (N : Nat) : it_spec_l2Knows_4 N = spec_l2Knows_4 N := funext fun b => funext fun w => funext (lp_all (by kernel_rfl) fun n => by
    show _ = spec_l2Knows_4r N b w (it_spec_l2Knows_4 N b w n)
    kernel_rfl)
noncomputable def its_spec_l2Knows_2 (N : Nat) (n : Nat) : St → Option Bool := fun S' => iter [] (annAt fi_spec_l2Knows 2) (code (E_spec_l2Knows N) (lpIn fi_spec_l2Knows.body 0 2) 2) n S' (contOf (E_spec_l2Knows N) fi_spec_l2Knows.body 0 2 K_spec_l2Knows)
noncomputable def it_spec_l2Knows_2 (N : Nat) (b : Book) (w : Want) (n : Nat) : Int → Option Bool := fun i6 => its_spec_l2Knows_2 N n (S_spec_l2Knows_2 b w i6)
theorem fe_spec_l2Knows_2 (N : Nat) : it_spec_l2Knows_2 N = spec_l2Knows_2 N := funext fun b => funext fun w => funext (lp_all (by kernel_rfl) fun n => by
    show _ = spec_l2Knows_2r N (spec_l2Knows_4 N) b w (it_spec_l2Knows_2 N b w n)
    rw [show spec_l2Knows_4 N = it_spec_l2Knows_4 N from (fe_spec_l2Knows_4 N).symm]
    kernel_rfl)
noncomputable def its_spec_l2Knows_0 (N : Nat) (n : Nat) : St → Option Bool := fun S' => iter [] (annAt fi_spec_l2Knows 0) (code (E_spec_l2Knows N) (lpIn fi_spec_l2Knows.body 0 0) 0) n S' (contOf (E_spec_l2Knows N) fi_spec_l2Knows.body 0 0 K_spec_l2Knows)
noncomputable def it_spec_l2Knows_0 (N : Nat) (b : Book) (w : Want) (n : Nat) : Int → Option Bool := fun i5 => its_spec_l2Knows_0 N n (S_spec_l2Knows_0 b w i5)
theorem fe_spec_l2Knows_0 (N : Nat) : it_spec_l2Knows_0 N = spec_l2Knows_0 N := funext fun b => funext fun w => funext (lp_all (by kernel_rfl) fun n => by
    show _ = spec_l2Knows_0r N (spec_l2Knows_2 N) b w (it_spec_l2Knows_0 N b w n)
    rw [show spec_l2Knows_2 N = it_spec_l2Knows_2 N from (fe_spec_l2Knows_2 N).symm]
    kernel_rfl)
theorem run_spec_l2Knows (N : Nat) (b : (List ((List UInt8) × (List UInt8))) × ((List ((List UInt8) × ((Int) × ((Int) × ((Int) × (List Txt)))))) × ((List Txt) × ((List (((Int) × ((Int) × ((List Txt) × ((List ((List UInt8) × ((Int) × (Int)))) × ((List Txt) × (List Txt)))))) × (Bool))) × (Int))))) (w : (Int) × ((Int) × ((List Txt) × ((List ((List UInt8) × ((Int) × (Int)))) × ((List Txt) × (List Txt)))))) : runST (ofDs [.bool]) (tabOf tabL) (tabS (phiL_spec_l2Knows N)) inl0 N fi_spec_l2Knows sg_spec_l2Knows [⟨tBook, b⟩, ⟨tWant, w⟩] = F.spec_l2Knows N b w := by
    show _ = F.spec_l2Knowsb N (F.spec_l2Knows_0 N) b w
    rw [← fe_spec_l2Knows_0 N]
    kernel_rfl
def sm_spec_l2Knows (N : Nat) : Summ := summOf [.d tBook true, .d tWant true] false [.d (.bool) false] [.bool] (F.spec_l2Knows N)
theorem con_spec_l2Knows (N : Nat) : Contract Tryz.prog 105 (sm_spec_l2Knows N) := con_of (N := N) tabOK mixed (callOK_list (l := phiL_spec_l2Knows N) (allc rfl (con_spec_l2Spot N) (allc rfl (con_spec_l1Has N) trivial))) (inl0_ok _) ok_spec_l2Knows (by decide) fun b w => run_spec_l2Knows N b w
def an_spec_l1All : Nat → Option Ann
  | 0 => some ⟨{ fr := [(0, Dir.keep), (1, Dir.keep), (5, Dir.keep)], bx := [], os := [] }, [(0, { fr := [], bx := [], os := [] })], { fr := [(4, Dir.keep)], bx := [], os := [] }⟩
  | _ => none
noncomputable def fi_spec_l1All : FI := ⟨Tryz.f163.results.toList, bodyOf Tryz.f163.body, Tryz.f163.ntmps, an_spec_l1All⟩
theorem ok_spec_l1All : FnOK Tryz.prog 163 fi_spec_l1All := ⟨⟨Tryz.f163, Tryz.func163, by kernel_rfl, rfl, rfl, by kernel_rfl⟩, by kernel_rfl⟩
def phiL_spec_l1All (N : Nat) : List (Nat × Summ) := [(102, sm_spec_l1Has N)]
def sg_spec_l1All : Summ := sigOf [.d tTxts false, .d tTxts false] false [.d (.bool) false]
def S_spec_l1All_0 (a : List Txt) (b : List Txt) (i5 : Int) : St := { fr := [(0, AV.w (V1.one (C.v tTxts a))), (1, AV.w (V1.one (C.v tTxts b))), (5, AV.w (V1.one (C.v tInt i5)))], H := [] }
noncomputable def E_spec_l1All (N : Nat) : Env := envOf (tabOf tabL) (tabS (phiL_spec_l1All N)) inl0 N fi_spec_l1All []
noncomputable def K_spec_l1All := (kFun (tabOf tabL) fi_spec_l1All.res (kT (ofDs [.bool]) sg_spec_l1All []))
noncomputable def its_spec_l1All_0 (N : Nat) (n : Nat) : St → Option Bool := fun S' => iter [] (annAt fi_spec_l1All 0) (code (E_spec_l1All N) (lpIn fi_spec_l1All.body 0 0) 0) n S' (contOf (E_spec_l1All N) fi_spec_l1All.body 0 0 K_spec_l1All)
noncomputable def it_spec_l1All_0 (N : Nat) (a : List Txt) (b : List Txt) (n : Nat) : Int → Option Bool := fun i5 => its_spec_l1All_0 N n (S_spec_l1All_0 a b i5)
theorem fe_spec_l1All_0 (N : Nat) : it_spec_l1All_0 N = spec_l1All_0 N := funext fun a => funext fun b => funext (lp_all (by kernel_rfl) fun n => by
    show _ = spec_l1All_0r N a b (it_spec_l1All_0 N a b n)
    kernel_rfl)
theorem run_spec_l1All (N : Nat) (a : List (List UInt8)) (b : List (List UInt8)) : runST (ofDs [.bool]) (tabOf tabL) (tabS (phiL_spec_l1All N)) inl0 N fi_spec_l1All sg_spec_l1All [⟨tTxts, a⟩, ⟨tTxts, b⟩] = F.spec_l1All N a b := by
    show _ = F.spec_l1Allb N (F.spec_l1All_0 N) a b
    rw [← fe_spec_l1All_0 N]
    kernel_rfl
def sm_spec_l1All (N : Nat) : Summ := summOf [.d tTxts false, .d tTxts false] false [.d (.bool) false] [.bool] (F.spec_l1All N)
theorem con_spec_l1All (N : Nat) : Contract Tryz.prog 163 (sm_spec_l1All N) := con_of (N := N) tabOK mixed (callOK_list (l := phiL_spec_l1All N) (allc rfl (con_spec_l1Has N) trivial)) (inl0_ok _) ok_spec_l1All (by decide) fun a b => run_spec_l1All N a b
def an_spec_l2UseOk : Nat → Option Ann := fun _ => none
noncomputable def fi_spec_l2UseOk : FI := ⟨Tryz.f181.results.toList, bodyOf Tryz.f181.body, Tryz.f181.ntmps, an_spec_l2UseOk⟩
theorem ok_spec_l2UseOk : FnOK Tryz.prog 181 fi_spec_l2UseOk := ⟨⟨Tryz.f181, Tryz.func181, by kernel_rfl, rfl, rfl, by kernel_rfl⟩, by kernel_rfl⟩
def phiL_spec_l2UseOk (N : Nat) : List (Nat × Summ) := [(163, sm_spec_l1All N)]
def sg_spec_l2UseOk : Summ := sigOf [.d tSpot true, .d tWant true, .d tUse true] false [.d (.bool) false]
theorem run_spec_l2UseOk (N : Nat) (s : (List UInt8) × ((Int) × ((Int) × ((Int) × (List Txt))))) (w : (Int) × ((Int) × ((List Txt) × ((List ((List UInt8) × ((Int) × (Int)))) × ((List Txt) × (List Txt)))))) (u : (List UInt8) × ((Int) × (Int))) : runST (ofDs [.bool]) (tabOf tabL) (tabS (phiL_spec_l2UseOk N)) inl0 N fi_spec_l2UseOk sg_spec_l2UseOk [⟨tSpot, s⟩, ⟨tWant, w⟩, ⟨tUse, u⟩] = F.spec_l2UseOk N s w u := by kernel_rfl
def sm_spec_l2UseOk (N : Nat) : Summ := summOf [.d tSpot true, .d tWant true, .d tUse true] false [.d (.bool) false] [.bool] (F.spec_l2UseOk N)
theorem con_spec_l2UseOk (N : Nat) : Contract Tryz.prog 181 (sm_spec_l2UseOk N) := con_of (N := N) tabOK mixed (callOK_list (l := phiL_spec_l2UseOk N) (allc rfl (con_spec_l1All N) trivial)) (inl0_ok _) ok_spec_l2UseOk (by decide) fun s w u => run_spec_l2UseOk N s w u
def an_spec_l2PartOk : Nat → Option Ann
  | 0 => some ⟨{ fr := [(2, Dir.keep), (3, Dir.keep), (5, Dir.keep)], bx := [(2, [Dir.keep, Dir.keep, Dir.keep, Dir.keep, Dir.keep]), (3, [Dir.keep, Dir.keep, Dir.keep, Dir.keep, Dir.keep, Dir.keep, Dir.keep])], os := [] }, [(0, { fr := [], bx := [], os := [] })], { fr := [(4, Dir.keep)], bx := [], os := [] }⟩
  | _ => none
noncomputable def fi_spec_l2PartOk : FI := ⟨Tryz.f174.results.toList, bodyOf Tryz.f174.body, Tryz.f174.ntmps, an_spec_l2PartOk⟩
theorem ok_spec_l2PartOk : FnOK Tryz.prog 174 fi_spec_l2PartOk := ⟨⟨Tryz.f174, Tryz.func174, by kernel_rfl, rfl, rfl, by kernel_rfl⟩, by kernel_rfl⟩
def phiL_spec_l2PartOk (N : Nat) : List (Nat × Summ) := [(47, sm_spec_ClaimWantOk N), (105, sm_spec_l2Knows N), (62, sm_spec_l2Spot N), (181, sm_spec_l2UseOk N)]
def sg_spec_l2PartOk : Summ := sigOf [.d tBook true, .d tPart true] false [.d (.bool) false]
def S_spec_l2PartOk_0 (b : Book) (p : Part) (i5 : Int) : St := { fr := [(2, AV.w (V1.one (C.pb 2 0))), (3, AV.w (V1.one (C.pb 3 0))), (5, AV.w (V1.one (C.v tInt i5)))], H := [(2, Ob.box [C.v tFoe.slice b.1, C.v tSpot.slice b.2.1, C.v tTxts b.2.2.1, C.v tPart.slice b.2.2.2.1, C.v tInt b.2.2.2.2]), (3, Ob.box [C.v tInt p.1.1, C.v tInt p.1.2.1, C.v tTxts p.1.2.2.1, C.v tUse.slice p.1.2.2.2.1, C.v tTxts p.1.2.2.2.2.1, C.v tTxts p.1.2.2.2.2.2, C.v Ty.bool p.2])] }
noncomputable def E_spec_l2PartOk (N : Nat) : Env := envOf (tabOf tabL) (tabS (phiL_spec_l2PartOk N)) inl0 N fi_spec_l2PartOk []
noncomputable def K_spec_l2PartOk := (kFun (tabOf tabL) fi_spec_l2PartOk.res (kT (ofDs [.bool]) sg_spec_l2PartOk []))
noncomputable def its_spec_l2PartOk_0 (N : Nat) (n : Nat) : St → Option Bool := fun S' => iter [] (annAt fi_spec_l2PartOk 0) (code (E_spec_l2PartOk N) (lpIn fi_spec_l2PartOk.body 0 0) 0) n S' (contOf (E_spec_l2PartOk N) fi_spec_l2PartOk.body 0 0 K_spec_l2PartOk)
noncomputable def it_spec_l2PartOk_0 (N : Nat) (b : Book) (p : Part) (n : Nat) : Int → Option Bool := fun i5 => its_spec_l2PartOk_0 N n (S_spec_l2PartOk_0 b p i5)
theorem fe_spec_l2PartOk_0 (N : Nat) : it_spec_l2PartOk_0 N = spec_l2PartOk_0 N := funext fun b => funext fun p => funext (lp_all (by kernel_rfl) fun n => by
    show _ = spec_l2PartOk_0r N b p (it_spec_l2PartOk_0 N b p n)
    kernel_rfl)
theorem run_spec_l2PartOk (N : Nat) (b : (List ((List UInt8) × (List UInt8))) × ((List ((List UInt8) × ((Int) × ((Int) × ((Int) × (List Txt)))))) × ((List Txt) × ((List (((Int) × ((Int) × ((List Txt) × ((List ((List UInt8) × ((Int) × (Int)))) × ((List Txt) × (List Txt)))))) × (Bool))) × (Int))))) (p : ((Int) × ((Int) × ((List Txt) × ((List ((List UInt8) × ((Int) × (Int)))) × ((List Txt) × (List Txt)))))) × (Bool)) : runST (ofDs [.bool]) (tabOf tabL) (tabS (phiL_spec_l2PartOk N)) inl0 N fi_spec_l2PartOk sg_spec_l2PartOk [⟨tBook, b⟩, ⟨tPart, p⟩] = F.spec_l2PartOk N b p := by
    show _ = F.spec_l2PartOkb N (F.spec_l2PartOk_0 N) b p
    rw [← fe_spec_l2PartOk_0 N]
    kernel_rfl
def sm_spec_l2PartOk (N : Nat) : Summ := summOf [.d tBook true, .d tPart true] false [.d (.bool) false] [.bool] (F.spec_l2PartOk N)
theorem con_spec_l2PartOk (N : Nat) : Contract Tryz.prog 174 (sm_spec_l2PartOk N) := con_of (N := N) tabOK mixed (callOK_list (l := phiL_spec_l2PartOk N) (allc rfl (con_spec_ClaimWantOk N) (allc rfl (con_spec_l2Knows N) (allc rfl (con_spec_l2Spot N) (allc rfl (con_spec_l2UseOk N) trivial))))) (inl0_ok _) ok_spec_l2PartOk (by decide) fun b p => run_spec_l2PartOk N b p
def an_spec_l2Uses : Nat → Option Ann
  | 0 => some ⟨{ fr := [(1, Dir.keep), (3, Dir.own 700003 9 Ty.str), (4, Dir.keep)], bx := [(1, [Dir.keep, Dir.keep, Dir.keep, Dir.keep, Dir.keep, Dir.keep])], os := [] }, [(0, { fr := [(3, Dir.own 700003 9 Ty.str)], bx := [], os := [] })], ⟨[], [], []⟩⟩
  | _ => none
noncomputable def fi_spec_l2Uses : FI := ⟨Tryz.f108.results.toList, bodyOf Tryz.f108.body, Tryz.f108.ntmps, an_spec_l2Uses⟩
theorem ok_spec_l2Uses : FnOK Tryz.prog 108 fi_spec_l2Uses := ⟨⟨Tryz.f108, Tryz.func108, by kernel_rfl, rfl, rfl, by kernel_rfl⟩, by kernel_rfl⟩
def phiL_spec_l2Uses (N : Nat) : List (Nat × Summ) := []
def sg_spec_l2Uses : Summ := sigOf [.d tWant true] false [.own tTxts false [(9, none)]]
def S_spec_l2Uses_0 (w : Want) (i4 : Int) (out3a : List Txt) : St := { fr := [(1, AV.w (V1.one (C.pb 1 0))), (3, AV.w (V1.one (C.arr 700003))), (4, AV.w (V1.one (C.v tInt i4)))], H := [(1, Ob.box [C.v tInt w.1, C.v tInt w.2.1, C.v tTxts w.2.2.1, C.v tUse.slice w.2.2.2.1, C.v tTxts w.2.2.2.2.1, C.v tTxts w.2.2.2.2.2]), (700003, Ob.arr 9 Ty.str out3a)] }
noncomputable def E_spec_l2Uses (N : Nat) : Env := envOf (tabOf tabL) (tabS (phiL_spec_l2Uses N)) inl0 N fi_spec_l2Uses []
noncomputable def K_spec_l2Uses := (kFun (tabOf tabL) fi_spec_l2Uses.res (kT (ofDs [tTxts]) sg_spec_l2Uses []))
noncomputable def its_spec_l2Uses_0 (N : Nat) (n : Nat) : St → Option (List Txt) := fun S' => iter [] (annAt fi_spec_l2Uses 0) (code (E_spec_l2Uses N) (lpIn fi_spec_l2Uses.body 0 0) 0) n S' (contOf (E_spec_l2Uses N) fi_spec_l2Uses.body 0 0 K_spec_l2Uses)
noncomputable def it_spec_l2Uses_0 (N : Nat) (w : Want) (n : Nat) : Int → (List Txt) → Option (List Txt) := fun i4 out3a => its_spec_l2Uses_0 N n (S_spec_l2Uses_0 w i4 out3a)
theorem fe_spec_l2Uses_0 (N : Nat) : it_spec_l2Uses_0 N = spec_l2Uses_0 N := funext fun w => funext (lp_all (by kernel_rfl) fun n => by
    show _ = spec_l2Uses_0r N w (it_spec_l2Uses_0 N w n)
    kernel_rfl)
theorem run_spec_l2Uses (N : Nat) (w : (Int) × ((Int) × ((List Txt) × ((List ((List UInt8) × ((Int) × (Int)))) × ((List Txt) × (List Txt)))))) : runST (ofDs [tTxts]) (tabOf tabL) (tabS (phiL_spec_l2Uses N)) inl0 N fi_spec_l2Uses sg_spec_l2Uses [⟨tWant, w⟩] = F.spec_l2Uses N w := by
    show _ = F.spec_l2Usesb N (F.spec_l2Uses_0 N) w
    rw [← fe_spec_l2Uses_0 N]
    kernel_rfl
def sm_spec_l2Uses (N : Nat) : Summ := summOf [.d tWant true] false [.own tTxts false [(9, none)]] [tTxts] (F.spec_l2Uses N)
theorem con_spec_l2Uses (N : Nat) : Contract Tryz.prog 108 (sm_spec_l2Uses N) := con_of (N := N) tabOK mixed (callOK_list (l := phiL_spec_l2Uses N) trivial) (inl0_ok _) ok_spec_l2Uses (by decide) fun w => run_spec_l2Uses N w
def an_spec_l2Crosses : Nat → Option Ann := fun _ => none
noncomputable def fi_spec_l2Crosses : FI := ⟨Tryz.f109.results.toList, bodyOf Tryz.f109.body, Tryz.f109.ntmps, an_spec_l2Crosses⟩
theorem ok_spec_l2Crosses : FnOK Tryz.prog 109 fi_spec_l2Crosses := ⟨⟨Tryz.f109, Tryz.func109, by kernel_rfl, rfl, rfl, by kernel_rfl⟩, by kernel_rfl⟩
def phiL_spec_l2Crosses (N : Nat) : List (Nat × Summ) := [(107, sm_spec_l1Share N)]
def sg_spec_l2Crosses : Summ := sigOf [.d tWant true, .d tWant true] false [.d (.bool) false]
theorem run_spec_l2Crosses (N : Nat) (a : (Int) × ((Int) × ((List Txt) × ((List ((List UInt8) × ((Int) × (Int)))) × ((List Txt) × (List Txt)))))) (b : (Int) × ((Int) × ((List Txt) × ((List ((List UInt8) × ((Int) × (Int)))) × ((List Txt) × (List Txt)))))) : runST (ofDs [.bool]) (tabOf tabL) (tabS (phiL_spec_l2Crosses N)) inl0 N fi_spec_l2Crosses sg_spec_l2Crosses [⟨tWant, a⟩, ⟨tWant, b⟩] = F.spec_l2Crosses N a b := by kernel_rfl
def sm_spec_l2Crosses (N : Nat) : Summ := summOf [.d tWant true, .d tWant true] false [.d (.bool) false] [.bool] (F.spec_l2Crosses N)
theorem con_spec_l2Crosses (N : Nat) : Contract Tryz.prog 109 (sm_spec_l2Crosses N) := con_of (N := N) tabOK mixed (callOK_list (l := phiL_spec_l2Crosses N) (allc rfl (con_spec_l1Share N) trivial)) (inl0_ok _) ok_spec_l2Crosses (by decide) fun a b => run_spec_l2Crosses N a b
def an_spec_l2PartsOk : Nat → Option Ann
  | 0 => some ⟨{ fr := [(1, Dir.keep), (3, Dir.keep)], bx := [(1, [Dir.keep, Dir.keep, Dir.keep, Dir.keep, Dir.keep])], os := [] }, [(0, { fr := [], bx := [], os := [] })], { fr := [(2, Dir.keep)], bx := [], os := [] }⟩
  | 2 => some ⟨{ fr := [(1, Dir.keep), (3, Dir.keep), (4, Dir.keep), (5, Dir.keep)], bx := [(1, [Dir.keep, Dir.keep, Dir.keep, Dir.keep, Dir.keep]), (4, [Dir.keep, Dir.keep, Dir.keep, Dir.keep, Dir.keep, Dir.keep])], os := [] }, [(2, { fr := [(1, Dir.keep), (3, Dir.keep)], bx := [(1, [Dir.keep, Dir.keep, Dir.keep, Dir.keep, Dir.keep])], os := [] })], { fr := [(2, Dir.keep)], bx := [], os := [] }⟩
  | _ => none
noncomputable def fi_spec_l2PartsOk : FI := ⟨Tryz.f124.results.toList, bodyOf Tryz.f124.body, Tryz.f124.ntmps, an_spec_l2PartsOk⟩
theorem ok_spec_l2PartsOk : FnOK Tryz.prog 124 fi_spec_l2PartsOk := ⟨⟨Tryz.f124, Tryz.func124, by kernel_rfl, rfl, rfl, by kernel_rfl⟩, by kernel_rfl⟩
def phiL_spec_l2PartsOk (N : Nat) : List (Nat × Summ) := [(174, sm_spec_l2PartOk N), (108, sm_spec_l2Uses N), (107, sm_spec_l1Share N), (109, sm_spec_l2Crosses N)]
def sg_spec_l2PartsOk : Summ := sigOf [.d tBook true] false [.d (.bool) false]
def S_spec_l2PartsOk_2 (b : Book) (i3 : Int) (w4c0 : Int) (w4c1 : Int) (w4c2 : List Txt) (w4c3 : List Use) (w4c4 : List Txt) (w4c5 : List Txt) (k5 : Int) : St := { fr := [(1, AV.w (V1.one (C.pb 1 0))), (3, AV.w (V1.one (C.v tInt i3))), (4, AV.w (V1.one (C.pb 4 0))), (5, AV.w (V1.one (C.v tInt k5)))], H := [(1, Ob.box [C.v tFoe.slice b.1, C.v tSpot.slice b.2.1, C.v tTxts b.2.2.1, C.v tPart.slice b.2.2.2.1, C.v tInt b.2.2.2.2]), (4, Ob.box [C.v tInt w4c0, C.v tInt w4c1, C.v tTxts w4c2, C.v tUse.slice w4c3, C.v tTxts w4c4, C.v tTxts w4c5])] }
def S_spec_l2PartsOk_0 (b : Book) (i3 : Int) : St := { fr := [(1, AV.w (V1.one (C.pb 1 0))), (3, AV.w (V1.one (C.v tInt i3)))], H := [(1, Ob.box [C.v tFoe.slice b.1, C.v tSpot.slice b.2.1, C.v tTxts b.2.2.1, C.v tPart.slice b.2.2.2.1, C.v tInt b.2.2.2.2])] }
noncomputable def E_spec_l2PartsOk (N : Nat) : Env := envOf (tabOf tabL) (tabS (phiL_spec_l2PartsOk N)) inl0 N fi_spec_l2PartsOk []
noncomputable def K_spec_l2PartsOk := (kFun (tabOf tabL) fi_spec_l2PartsOk.res (kT (ofDs [.bool]) sg_spec_l2PartsOk []))
noncomputable def its_spec_l2PartsOk_2 (N : Nat) (nxS0 : St → Option Bool) (n : Nat) : St → Option Bool := fun S' => iter [] (annAt fi_spec_l2PartsOk 2) (code (E_spec_l2PartsOk N) (lpIn (lpIn fi_spec_l2PartsOk.body 0 0) 0 2) 2) n S' (contOf (E_spec_l2PartsOk N) (lpIn fi_spec_l2PartsOk.body 0 0) 0 2 (kLoop [] (annAt fi_spec_l2PartsOk 0) nxS0 (contOf (E_spec_l2PartsOk N) fi_spec_l2PartsOk.body 0 0 K_spec_l2PartsOk)))
noncomputable def it_spec_l2PartsOk_2 (N : Nat) (nxS0 : St → Option Bool) (b : Book) (i3 : Int) (w4c0 : Int) (w4c1 : Int) (w4c2 : List Txt) (w4c3 : List Use) (w4c4 : List Txt) (w4c5 : List Txt) (n : Nat) : Int → Option Bool := fun k5 => its_spec_l2PartsOk_2 N nxS0 n (S_spec_l2PartsOk_2 b i3 w4c0 w4c1 w4c2 w4c3 w4c4 w4c5 k5)
theorem fe_spec_l2PartsOk_2 (N : Nat) (nxS0 : St → Option Bool) (b : Book) : it_spec_l2PartsOk_2 N nxS0 b = spec_l2PartsOk_2 N (fun i3 => nxS0 (S_spec_l2PartsOk_0 b i3)) b := funext fun i3 => funext fun w4c0 => funext fun w4c1 => funext fun w4c2 => funext fun w4c3 => funext fun w4c4 => funext fun w4c5 => funext (lp_all (by kernel_rfl) fun n => by
    show _ = spec_l2PartsOk_2r N (fun i3 => nxS0 (S_spec_l2PartsOk_0 b i3)) b i3 w4c0 w4c1 w4c2 w4c3 w4c4 w4c5 (it_spec_l2PartsOk_2 N nxS0 b i3 w4c0 w4c1 w4c2 w4c3 w4c4 w4c5 n)
    kernel_rfl)
noncomputable def its_spec_l2PartsOk_0 (N : Nat) (n : Nat) : St → Option Bool := fun S' => iter [] (annAt fi_spec_l2PartsOk 0) (code (E_spec_l2PartsOk N) (lpIn fi_spec_l2PartsOk.body 0 0) 0) n S' (contOf (E_spec_l2PartsOk N) fi_spec_l2PartsOk.body 0 0 K_spec_l2PartsOk)
noncomputable def it_spec_l2PartsOk_0 (N : Nat) (b : Book) (n : Nat) : Int → Option Bool := fun i3 => its_spec_l2PartsOk_0 N n (S_spec_l2PartsOk_0 b i3)
theorem fe_spec_l2PartsOk_0 (N : Nat) : it_spec_l2PartsOk_0 N = spec_l2PartsOk_0 N := funext fun b => funext (lp_all (by kernel_rfl) fun n => by
    show _ = spec_l2PartsOk_0r N (spec_l2PartsOk_2 N (it_spec_l2PartsOk_0 N b n) b) b (it_spec_l2PartsOk_0 N b n)
    rw [show spec_l2PartsOk_2 N (it_spec_l2PartsOk_0 N b n) b = it_spec_l2PartsOk_2 N (its_spec_l2PartsOk_0 N n) b from (fe_spec_l2PartsOk_2 N (its_spec_l2PartsOk_0 N n) b).symm]
    kernel_rfl)
theorem run_spec_l2PartsOk (N : Nat) (b : (List ((List UInt8) × (List UInt8))) × ((List ((List UInt8) × ((Int) × ((Int) × ((Int) × (List Txt)))))) × ((List Txt) × ((List (((Int) × ((Int) × ((List Txt) × ((List ((List UInt8) × ((Int) × (Int)))) × ((List Txt) × (List Txt)))))) × (Bool))) × (Int))))) : runST (ofDs [.bool]) (tabOf tabL) (tabS (phiL_spec_l2PartsOk N)) inl0 N fi_spec_l2PartsOk sg_spec_l2PartsOk [⟨tBook, b⟩] = F.spec_l2PartsOk N b := by
    show _ = F.spec_l2PartsOkb N (F.spec_l2PartsOk_0 N) b
    rw [← fe_spec_l2PartsOk_0 N]
    kernel_rfl
def sm_spec_l2PartsOk (N : Nat) : Summ := summOf [.d tBook true] false [.d (.bool) false] [.bool] (F.spec_l2PartsOk N)
theorem con_spec_l2PartsOk (N : Nat) : Contract Tryz.prog 124 (sm_spec_l2PartsOk N) := con_of (N := N) tabOK mixed (callOK_list (l := phiL_spec_l2PartsOk N) (allc rfl (con_spec_l2PartOk N) (allc rfl (con_spec_l2Uses N) (allc rfl (con_spec_l1Share N) (allc rfl (con_spec_l2Crosses N) trivial))))) (inl0_ok _) ok_spec_l2PartsOk (by decide) fun b => run_spec_l2PartsOk N b
def an_spec_ClaimBookOk : Nat → Option Ann
  | 0 => some ⟨{ fr := [(1, Dir.keep), (3, Dir.keep)], bx := [(1, [Dir.keep, Dir.keep, Dir.keep, Dir.keep, Dir.keep])], os := [] }, [(0, { fr := [(1, Dir.keep)], bx := [(1, [Dir.keep, Dir.keep, Dir.keep, Dir.keep, Dir.keep])], os := [] })], { fr := [(2, Dir.keep)], bx := [], os := [] }⟩
  | _ => none
noncomputable def fi_spec_ClaimBookOk : FI := ⟨Tryz.f45.results.toList, bodyOf Tryz.f45.body, Tryz.f45.ntmps, an_spec_ClaimBookOk⟩
theorem ok_spec_ClaimBookOk : FnOK Tryz.prog 45 fi_spec_ClaimBookOk := ⟨⟨Tryz.f45, Tryz.func45, by kernel_rfl, rfl, rfl, by kernel_rfl⟩, by kernel_rfl⟩
def phiL_spec_ClaimBookOk (N : Nat) : List (Nat × Summ) := [(121, sm_spec_l2FoesOk N), (122, sm_spec_l1NamesOk N), (67, sm_spec_l1In N), (123, sm_spec_l2SpotOk N), (124, sm_spec_l2PartsOk N)]
def sg_spec_ClaimBookOk : Summ := sigOf [.d tBook true] false [.d (.bool) false]
def S_spec_ClaimBookOk_0 (b : Book) (i3 : Int) : St := { fr := [(1, AV.w (V1.one (C.pb 1 0))), (3, AV.w (V1.one (C.v tInt i3)))], H := [(1, Ob.box [C.v tFoe.slice b.1, C.v tSpot.slice b.2.1, C.v tTxts b.2.2.1, C.v tPart.slice b.2.2.2.1, C.v tInt b.2.2.2.2])] }
noncomputable def E_spec_ClaimBookOk (N : Nat) : Env := envOf (tabOf tabL) (tabS (phiL_spec_ClaimBookOk N)) inl0 N fi_spec_ClaimBookOk []
noncomputable def K_spec_ClaimBookOk := (kFun (tabOf tabL) fi_spec_ClaimBookOk.res (kT (ofDs [.bool]) sg_spec_ClaimBookOk []))
noncomputable def its_spec_ClaimBookOk_0 (N : Nat) (n : Nat) : St → Option Bool := fun S' => iter [] (annAt fi_spec_ClaimBookOk 0) (code (E_spec_ClaimBookOk N) (lpIn fi_spec_ClaimBookOk.body 0 0) 0) n S' (contOf (E_spec_ClaimBookOk N) fi_spec_ClaimBookOk.body 0 0 K_spec_ClaimBookOk)
noncomputable def it_spec_ClaimBookOk_0 (N : Nat) (b : Book) (n : Nat) : Int → Option Bool := fun i3 => its_spec_ClaimBookOk_0 N n (S_spec_ClaimBookOk_0 b i3)
theorem fe_spec_ClaimBookOk_0 (N : Nat) : it_spec_ClaimBookOk_0 N = spec_ClaimBookOk_0 N := funext fun b => funext (lp_all (by kernel_rfl) fun n => by
    show _ = spec_ClaimBookOk_0r N b (it_spec_ClaimBookOk_0 N b n)
    kernel_rfl)
theorem run_spec_ClaimBookOk (N : Nat) (b : (List ((List UInt8) × (List UInt8))) × ((List ((List UInt8) × ((Int) × ((Int) × ((Int) × (List Txt)))))) × ((List Txt) × ((List (((Int) × ((Int) × ((List Txt) × ((List ((List UInt8) × ((Int) × (Int)))) × ((List Txt) × (List Txt)))))) × (Bool))) × (Int))))) : runST (ofDs [.bool]) (tabOf tabL) (tabS (phiL_spec_ClaimBookOk N)) inl0 N fi_spec_ClaimBookOk sg_spec_ClaimBookOk [⟨tBook, b⟩] = F.spec_ClaimBookOk N b := by
    show _ = F.spec_ClaimBookOkb N (F.spec_ClaimBookOk_0 N) b
    rw [← fe_spec_ClaimBookOk_0 N]
    kernel_rfl
def sm_spec_ClaimBookOk (N : Nat) : Summ := summOf [.d tBook true] false [.d (.bool) false] [.bool] (F.spec_ClaimBookOk N)
theorem con_spec_ClaimBookOk (N : Nat) : Contract Tryz.prog 45 (sm_spec_ClaimBookOk N) := con_of (N := N) tabOK mixed (callOK_list (l := phiL_spec_ClaimBookOk N) (allc rfl (con_spec_l2FoesOk N) (allc rfl (con_spec_l1NamesOk N) (allc rfl (con_spec_l1In N) (allc rfl (con_spec_l2SpotOk N) (allc rfl (con_spec_l2PartsOk N) trivial)))))) (inl0_ok _) ok_spec_ClaimBookOk (by decide) fun b => run_spec_ClaimBookOk N b
def an_spec_l1Names : Nat → Option Ann := fun _ => none
noncomputable def fi_spec_l1Names : FI := ⟨Tryz.f129.results.toList, bodyOf Tryz.f129.body, Tryz.f129.ntmps, an_spec_l1Names⟩
theorem ok_spec_l1Names : FnOK Tryz.prog 129 fi_spec_l1Names := ⟨⟨Tryz.f129, Tryz.func129, by kernel_rfl, rfl, rfl, by kernel_rfl⟩, by kernel_rfl⟩
def phiL_spec_l1Names (N : Nat) : List (Nat × Summ) := []
def sg_spec_l1Names : Summ := sigOf [.d tTxts false] false [.own tTxts false [(9, none)]]
theorem run_spec_l1Names (N : Nat) (list : List (List UInt8)) : runST (ofDs [tTxts]) (tabOf tabL) (tabS (phiL_spec_l1Names N)) inl0 N fi_spec_l1Names sg_spec_l1Names [⟨tTxts, list⟩] = F.spec_l1Names N list := by kernel_rfl
def sm_spec_l1Names (N : Nat) : Summ := summOf [.d tTxts false] false [.own tTxts false [(9, none)]] [tTxts] (F.spec_l1Names N)
theorem con_spec_l1Names (N : Nat) : Contract Tryz.prog 129 (sm_spec_l1Names N) := con_of (N := N) tabOK mixed (callOK_list (l := phiL_spec_l1Names N) trivial) (inl0_ok _) ok_spec_l1Names (by decide) fun list => run_spec_l1Names N list
def an_spec_l1Want : Nat → Option Ann := fun _ => none
noncomputable def fi_spec_l1Want : FI := ⟨Tryz.f130.results.toList, bodyOf Tryz.f130.body, Tryz.f130.ntmps, an_spec_l1Want⟩
theorem ok_spec_l1Want : FnOK Tryz.prog 130 fi_spec_l1Want := ⟨⟨Tryz.f130, Tryz.func130, by kernel_rfl, rfl, rfl, by kernel_rfl⟩, by kernel_rfl⟩
def phiL_spec_l1Want (N : Nat) : List (Nat × Summ) := [(129, sm_spec_l1Names N)]
def sg_spec_l1Want : Summ := sigOf [.d tWant true] false [.own tWant true [(9, none), (82, none), (9, none), (9, none)]]
theorem run_spec_l1Want (N : Nat) (w : (Int) × ((Int) × ((List Txt) × ((List ((List UInt8) × ((Int) × (Int)))) × ((List Txt) × (List Txt)))))) : runST (ofDs [tWant]) (tabOf tabL) (tabS (phiL_spec_l1Want N)) inl0 N fi_spec_l1Want sg_spec_l1Want [⟨tWant, w⟩] = F.spec_l1Want N w := by kernel_rfl
def sm_spec_l1Want (N : Nat) : Summ := summOf [.d tWant true] false [.own tWant true [(9, none), (82, none), (9, none), (9, none)]] [tWant] (F.spec_l1Want N)
theorem con_spec_l1Want (N : Nat) : Contract Tryz.prog 130 (sm_spec_l1Want N) := con_of (N := N) tabOK mixed (callOK_list (l := phiL_spec_l1Want N) (allc rfl (con_spec_l1Names N) trivial)) (inl0_ok _) ok_spec_l1Want (by decide) fun w => run_spec_l1Want N w
def an_spec_l2Copy : Nat → Option Ann
  | 0 => some ⟨{ fr := [(1, Dir.keep), (2, Dir.keep), (3, Dir.keep), (4, Dir.keep)], bx := [(1, [Dir.keep, Dir.keep, Dir.keep, Dir.keep, Dir.keep]), (2, [Dir.keep, Dir.keep, Dir.keep, Dir.keep, Dir.keep]), (3, [Dir.own 1000300 106 tFoe, Dir.dow 1000301 34 [9] tSpot, Dir.own 1000302 9 Ty.str, Dir.keep, Dir.keep])], os := [] }, [(0, { fr := [(1, Dir.keep), (2, Dir.keep), (3, Dir.keep)], bx := [(1, [Dir.keep, Dir.keep, Dir.keep, Dir.keep, Dir.keep]), (2, [Dir.keep, Dir.keep, Dir.keep, Dir.keep, Dir.keep]), (3, [Dir.own 1000300 106 tFoe, Dir.dow 1000301 34 [9] tSpot, Dir.own 1000302 9 Ty.str, Dir.keep, Dir.keep])], os := [] })], ⟨[], [], []⟩⟩
  | 2 => some ⟨{ fr := [(1, Dir.keep), (2, Dir.keep), (3, Dir.keep), (6, Dir.keep)], bx := [(1, [Dir.keep, Dir.keep, Dir.keep, Dir.keep, Dir.keep]), (2, [Dir.keep, Dir.keep, Dir.keep, Dir.keep, Dir.keep]), (3, [Dir.own 1000300 106 tFoe, Dir.dow 1000301 34 [9] tSpot, Dir.own 1000302 9 Ty.str, Dir.dow 1000303 94 [9, 82, 9, 9] tPart, Dir.keep])], os := [] }, [(2, { fr := [(2, Dir.keep), (3, Dir.keep)], bx := [(2, [Dir.keep, Dir.keep, Dir.keep, Dir.keep, Dir.keep]), (3, [Dir.own 1000300 106 tFoe, Dir.dow 1000301 34 [9] tSpot, Dir.own 1000302 9 Ty.str, Dir.dow 1000303 94 [9, 82, 9, 9] tPart, Dir.keep])], os := [] })], ⟨[], [], []⟩⟩
  | _ => none
noncomputable def fi_spec_l2Copy : FI := ⟨Tryz.f52.results.toList, bodyOf Tryz.f52.body, Tryz.f52.ntmps, an_spec_l2Copy⟩
theorem ok_spec_l2Copy : FnOK Tryz.prog 52 fi_spec_l2Copy := ⟨⟨Tryz.f52, Tryz.func52, by kernel_rfl, rfl, rfl, by kernel_rfl⟩, by kernel_rfl⟩
def phiL_spec_l2Copy (N : Nat) : List (Nat × Summ) := [(129, sm_spec_l1Names N), (130, sm_spec_l1Want N)]
def sg_spec_l2Copy : Summ := sigOf [.d tBook true] false [.own tBook true [(106, none), (34, (some [9])), (9, none), (94, (some [9, 82, 9, 9]))]]
def S_spec_l2Copy_2 (b : Book) (r : List Txt) (t2c4 : Int) (x3c0a : List Foe) (x3c1a : List Spot) (i6 : Int) (x3c3a : List Part) : St := { fr := [(1, AV.w (V1.one (C.pb 1 0))), (2, AV.w (V1.one (C.pb 2 0))), (3, AV.w (V1.one (C.pb 3 0))), (6, AV.w (V1.one (C.v tInt i6)))], H := [(1, Ob.box [C.v tFoe.slice b.1, C.v tSpot.slice b.2.1, C.v tTxts b.2.2.1, C.v tPart.slice b.2.2.2.1, C.v tInt b.2.2.2.2]), (2, Ob.box [C.emp, C.emp, C.emp, C.emp, C.v tInt t2c4]), (3, Ob.box [C.arr 1000300, C.arr 1000301, C.arr 1000302, C.arr 1000303, C.v tInt b.2.2.2.2]), (1000300, Ob.arr 106 tFoe x3c0a), (1000301, Ob.arr 34 tSpot x3c1a (Dp.yes [9])), (1000302, Ob.arr 9 Ty.str r), (1000303, Ob.arr 94 tPart x3c3a (Dp.yes [9, 82, 9, 9]))] }
def S_spec_l2Copy_0 (b : Book) (r : List Txt) (t2c4 : Int) (x3c0a : List Foe) (i4 : Int) (x3c1a : List Spot) : St := { fr := [(1, AV.w (V1.one (C.pb 1 0))), (2, AV.w (V1.one (C.pb 2 0))), (3, AV.w (V1.one (C.pb 3 0))), (4, AV.w (V1.one (C.v tInt i4)))], H := [(1, Ob.box [C.v tFoe.slice b.1, C.v tSpot.slice b.2.1, C.v tTxts b.2.2.1, C.v tPart.slice b.2.2.2.1, C.v tInt b.2.2.2.2]), (2, Ob.box [C.emp, C.emp, C.emp, C.emp, C.v tInt t2c4]), (3, Ob.box [C.arr 1000300, C.arr 1000301, C.arr 1000302, C.emp, C.v tInt b.2.2.2.2]), (1000300, Ob.arr 106 tFoe x3c0a), (1000301, Ob.arr 34 tSpot x3c1a (Dp.yes [9])), (1000302, Ob.arr 9 Ty.str r)] }
noncomputable def E_spec_l2Copy (N : Nat) : Env := envOf (tabOf tabL) (tabS (phiL_spec_l2Copy N)) inl0 N fi_spec_l2Copy []
noncomputable def K_spec_l2Copy := (kFun (tabOf tabL) fi_spec_l2Copy.res (kT (ofDs [tBook]) sg_spec_l2Copy []))
noncomputable def its_spec_l2Copy_2 (N : Nat) (n : Nat) : St → Option Book := fun S' => iter [] (annAt fi_spec_l2Copy 2) (code (E_spec_l2Copy N) (lpIn fi_spec_l2Copy.body 0 2) 2) n S' (contOf (E_spec_l2Copy N) fi_spec_l2Copy.body 0 2 K_spec_l2Copy)
noncomputable def it_spec_l2Copy_2 (N : Nat) (b : Book) (r : List Txt) (t2c4 : Int) (x3c0a : List Foe) (x3c1a : List Spot) (n : Nat) : Int → (List Part) → Option Book := fun i6 x3c3a => its_spec_l2Copy_2 N n (S_spec_l2Copy_2 b r t2c4 x3c0a x3c1a i6 x3c3a)
theorem fe_spec_l2Copy_2 (N : Nat) : it_spec_l2Copy_2 N = spec_l2Copy_2 N := funext fun b => funext fun r => funext fun t2c4 => funext fun x3c0a => funext fun x3c1a => funext (lp_all (by kernel_rfl) fun n => by
    show _ = spec_l2Copy_2r N b r t2c4 x3c0a x3c1a (it_spec_l2Copy_2 N b r t2c4 x3c0a x3c1a n)
    kernel_rfl)
noncomputable def its_spec_l2Copy_0 (N : Nat) (n : Nat) : St → Option Book := fun S' => iter [] (annAt fi_spec_l2Copy 0) (code (E_spec_l2Copy N) (lpIn fi_spec_l2Copy.body 0 0) 0) n S' (contOf (E_spec_l2Copy N) fi_spec_l2Copy.body 0 0 K_spec_l2Copy)
noncomputable def it_spec_l2Copy_0 (N : Nat) (b : Book) (r : List Txt) (t2c4 : Int) (x3c0a : List Foe) (n : Nat) : Int → (List Spot) → Option Book := fun i4 x3c1a => its_spec_l2Copy_0 N n (S_spec_l2Copy_0 b r t2c4 x3c0a i4 x3c1a)
theorem fe_spec_l2Copy_0 (N : Nat) : it_spec_l2Copy_0 N = spec_l2Copy_0 N := funext fun b => funext fun r => funext fun t2c4 => funext fun x3c0a => funext (lp_all (by kernel_rfl) fun n => by
    show _ = spec_l2Copy_0r N (spec_l2Copy_2 N) b r t2c4 x3c0a (it_spec_l2Copy_0 N b r t2c4 x3c0a n)
    rw [show spec_l2Copy_2 N = it_spec_l2Copy_2 N from (fe_spec_l2Copy_2 N).symm]
    kernel_rfl)
theorem run_spec_l2Copy (N : Nat) (b : (List ((List UInt8) × (List UInt8))) × ((List ((List UInt8) × ((Int) × ((Int) × ((Int) × (List Txt)))))) × ((List Txt) × ((List (((Int) × ((Int) × ((List Txt) × ((List ((List UInt8) × ((Int) × (Int)))) × ((List Txt) × (List Txt)))))) × (Bool))) × (Int))))) : runST (ofDs [tBook]) (tabOf tabL) (tabS (phiL_spec_l2Copy N)) inl0 N fi_spec_l2Copy sg_spec_l2Copy [⟨tBook, b⟩] = F.spec_l2Copy N b := by
    show _ = F.spec_l2Copyb N (F.spec_l2Copy_0 N) b
    rw [← fe_spec_l2Copy_0 N]
    kernel_rfl
def sm_spec_l2Copy (N : Nat) : Summ := summOf [.d tBook true] false [.own tBook true [(106, none), (34, (some [9])), (9, none), (94, (some [9, 82, 9, 9]))]] [tBook] (F.spec_l2Copy N)
theorem con_spec_l2Copy (N : Nat) : Contract Tryz.prog 52 (sm_spec_l2Copy N) := con_of (N := N) tabOK mixed (callOK_list (l := phiL_spec_l2Copy N) (allc rfl (con_spec_l1Names N) (allc rfl (con_spec_l1Want N) trivial))) (inl0_ok _) ok_spec_l2Copy (by decide) fun b => run_spec_l2Copy N b
def an_spec_l2Part : Nat → Option Ann
  | 0 => some ⟨{ fr := [(1, Dir.keep), (2, Dir.keep), (5, Dir.keep)], bx := [(2, [Dir.keep, Dir.keep, Dir.keep, Dir.keep, Dir.keep])], os := [] }, [(0, { fr := [], bx := [], os := [] })], { fr := [(4, Dir.keep)], bx := [], os := [] }⟩
  | _ => none
noncomputable def fi_spec_l2Part : FI := ⟨Tryz.f58.results.toList, bodyOf Tryz.f58.body, Tryz.f58.ntmps, an_spec_l2Part⟩
theorem ok_spec_l2Part : FnOK Tryz.prog 58 fi_spec_l2Part := ⟨⟨Tryz.f58, Tryz.func58, by kernel_rfl, rfl, rfl, by kernel_rfl⟩, by kernel_rfl⟩
def phiL_spec_l2Part (N : Nat) : List (Nat × Summ) := []
def sg_spec_l2Part : Summ := sigOf [.d tBook true, .d tInt false] false [.d tInt false]
def S_spec_l2Part_0 (b : Book) (number : Int) (i5 : Int) : St := { fr := [(1, AV.w (V1.one (C.v tInt number))), (2, AV.w (V1.one (C.pb 2 0))), (5, AV.w (V1.one (C.v tInt i5)))], H := [(2, Ob.box [C.v tFoe.slice b.1, C.v tSpot.slice b.2.1, C.v tTxts b.2.2.1, C.v tPart.slice b.2.2.2.1, C.v tInt b.2.2.2.2])] }
noncomputable def E_spec_l2Part (N : Nat) : Env := envOf (tabOf tabL) (tabS (phiL_spec_l2Part N)) inl0 N fi_spec_l2Part []
noncomputable def K_spec_l2Part := (kFun (tabOf tabL) fi_spec_l2Part.res (kT (ofDs [tInt]) sg_spec_l2Part []))
noncomputable def its_spec_l2Part_0 (N : Nat) (n : Nat) : St → Option Int := fun S' => iter [] (annAt fi_spec_l2Part 0) (code (E_spec_l2Part N) (lpIn fi_spec_l2Part.body 0 0) 0) n S' (contOf (E_spec_l2Part N) fi_spec_l2Part.body 0 0 K_spec_l2Part)
noncomputable def it_spec_l2Part_0 (N : Nat) (b : Book) (number : Int) (n : Nat) : Int → Option Int := fun i5 => its_spec_l2Part_0 N n (S_spec_l2Part_0 b number i5)
theorem fe_spec_l2Part_0 (N : Nat) : it_spec_l2Part_0 N = spec_l2Part_0 N := funext fun b => funext fun number => funext (lp_all (by kernel_rfl) fun n => by
    show _ = spec_l2Part_0r N b number (it_spec_l2Part_0 N b number n)
    kernel_rfl)
theorem run_spec_l2Part (N : Nat) (b : (List ((List UInt8) × (List UInt8))) × ((List ((List UInt8) × ((Int) × ((Int) × ((Int) × (List Txt)))))) × ((List Txt) × ((List (((Int) × ((Int) × ((List Txt) × ((List ((List UInt8) × ((Int) × (Int)))) × ((List Txt) × (List Txt)))))) × (Bool))) × (Int))))) (number : Int) : runST (ofDs [tInt]) (tabOf tabL) (tabS (phiL_spec_l2Part N)) inl0 N fi_spec_l2Part sg_spec_l2Part [⟨tBook, b⟩, ⟨tInt, number⟩] = F.spec_l2Part N b number := by
    show _ = F.spec_l2Partb N (F.spec_l2Part_0 N) b number
    rw [← fe_spec_l2Part_0 N]
    kernel_rfl
def sm_spec_l2Part (N : Nat) : Summ := summOf [.d tBook true, .d tInt false] false [.d tInt false] [tInt] (F.spec_l2Part N)
theorem con_spec_l2Part (N : Nat) : Contract Tryz.prog 58 (sm_spec_l2Part N) := con_of (N := N) tabOK mixed (callOK_list (l := phiL_spec_l2Part N) trivial) (inl0_ok _) ok_spec_l2Part (by decide) fun b number => run_spec_l2Part N b number
def an_spec_l4Moved : Nat → Option Ann
  | 0 => some ⟨{ fr := [(1, Dir.keep), (2, Dir.keep), (5, Dir.keep)], bx := [(2, [Dir.keep, Dir.keep, Dir.keep, Dir.keep, Dir.keep, Dir.keep])], os := [] }, [(0, { fr := [], bx := [], os := [] })], { fr := [(4, Dir.keep)], bx := [], os := [] }⟩
  | _ => none
noncomputable def fi_spec_l4Moved : FI := ⟨Tryz.f61.results.toList, bodyOf Tryz.f61.body, Tryz.f61.ntmps, an_spec_l4Moved⟩
theorem ok_spec_l4Moved : FnOK Tryz.prog 61 fi_spec_l4Moved := ⟨⟨Tryz.f61, Tryz.func61, by kernel_rfl, rfl, rfl, by kernel_rfl⟩, by kernel_rfl⟩
def phiL_spec_l4Moved (N : Nat) : List (Nat × Summ) := []
def sg_spec_l4Moved : Summ := sigOf [.d tWant true, .d tInt false] false [.d (.bool) false]
def S_spec_l4Moved_0 (w : Want) (moved : Int) (i5 : Int) : St := { fr := [(1, AV.w (V1.one (C.v tInt moved))), (2, AV.w (V1.one (C.pb 2 0))), (5, AV.w (V1.one (C.v tInt i5)))], H := [(2, Ob.box [C.v tInt w.1, C.v tInt w.2.1, C.v tTxts w.2.2.1, C.v tUse.slice w.2.2.2.1, C.v tTxts w.2.2.2.2.1, C.v tTxts w.2.2.2.2.2])] }
noncomputable def E_spec_l4Moved (N : Nat) : Env := envOf (tabOf tabL) (tabS (phiL_spec_l4Moved N)) inl0 N fi_spec_l4Moved []
noncomputable def K_spec_l4Moved := (kFun (tabOf tabL) fi_spec_l4Moved.res (kT (ofDs [.bool]) sg_spec_l4Moved []))
noncomputable def its_spec_l4Moved_0 (N : Nat) (n : Nat) : St → Option Bool := fun S' => iter [] (annAt fi_spec_l4Moved 0) (code (E_spec_l4Moved N) (lpIn fi_spec_l4Moved.body 0 0) 0) n S' (contOf (E_spec_l4Moved N) fi_spec_l4Moved.body 0 0 K_spec_l4Moved)
noncomputable def it_spec_l4Moved_0 (N : Nat) (w : Want) (moved : Int) (n : Nat) : Int → Option Bool := fun i5 => its_spec_l4Moved_0 N n (S_spec_l4Moved_0 w moved i5)
theorem fe_spec_l4Moved_0 (N : Nat) : it_spec_l4Moved_0 N = spec_l4Moved_0 N := funext fun w => funext fun moved => funext (lp_all (by kernel_rfl) fun n => by
    show _ = spec_l4Moved_0r N w moved (it_spec_l4Moved_0 N w moved n)
    kernel_rfl)
theorem run_spec_l4Moved (N : Nat) (w : (Int) × ((Int) × ((List Txt) × ((List ((List UInt8) × ((Int) × (Int)))) × ((List Txt) × (List Txt)))))) (moved : Int) : runST (ofDs [.bool]) (tabOf tabL) (tabS (phiL_spec_l4Moved N)) inl0 N fi_spec_l4Moved sg_spec_l4Moved [⟨tWant, w⟩, ⟨tInt, moved⟩] = F.spec_l4Moved N w moved := by
    show _ = F.spec_l4Movedb N (F.spec_l4Moved_0 N) w moved
    rw [← fe_spec_l4Moved_0 N]
    kernel_rfl
def sm_spec_l4Moved (N : Nat) : Summ := summOf [.d tWant true, .d tInt false] false [.d (.bool) false] [.bool] (F.spec_l4Moved N)
theorem con_spec_l4Moved (N : Nat) : Contract Tryz.prog 61 (sm_spec_l4Moved N) := con_of (N := N) tabOK mixed (callOK_list (l := phiL_spec_l4Moved N) trivial) (inl0_ok _) ok_spec_l4Moved (by decide) fun w moved => run_spec_l4Moved N w moved
def an_spec_l4Settle : Nat → Option Ann := fun _ => none
noncomputable def fi_spec_l4Settle : FI := ⟨Tryz.f63.results.toList, bodyOf Tryz.f63.body, Tryz.f63.ntmps, an_spec_l4Settle⟩
theorem ok_spec_l4Settle : FnOK Tryz.prog 63 fi_spec_l4Settle := ⟨⟨Tryz.f63, Tryz.func63, by kernel_rfl, rfl, rfl, by kernel_rfl⟩, by kernel_rfl⟩
def phiL_spec_l4Settle (N : Nat) : List (Nat × Summ) := []
def sg_spec_l4Settle : Summ := sigOf [.d tSpot true, .d tWant true, .d tUse true, .d tInt false, .d (.bool) false] true [.d tSpot true]
theorem run_spec_l4Settle (N : Nat) (s : (List UInt8) × ((Int) × ((Int) × ((Int) × (List Txt))))) (w : (Int) × ((Int) × ((List Txt) × ((List ((List UInt8) × ((Int) × (Int)))) × ((List Txt) × (List Txt)))))) (u : (List UInt8) × ((Int) × (Int))) (moved : Int) (done : Bool) : runST (ofDs [tSpot]) (tabOf tabL) (tabS (phiL_spec_l4Settle N)) inl0 N fi_spec_l4Settle sg_spec_l4Settle [⟨tSpot, s⟩, ⟨tWant, w⟩, ⟨tUse, u⟩, ⟨tInt, moved⟩, ⟨.bool, done⟩] = F.spec_l4Settle N s w u moved done := by kernel_rfl
def sm_spec_l4Settle (N : Nat) : Summ := summOf [.d tSpot true, .d tWant true, .d tUse true, .d tInt false, .d (.bool) false] true [.d tSpot true] [tSpot] (F.spec_l4Settle N)
theorem con_spec_l4Settle (N : Nat) : Contract Tryz.prog 63 (sm_spec_l4Settle N) := con_of (N := N) tabOK mixed (callOK_list (l := phiL_spec_l4Settle N) trivial) (inl0_ok _) ok_spec_l4Settle (by decide) fun s w u moved done => run_spec_l4Settle N s w u moved done
def an_spec_ClaimOver : Nat → Option Ann
  | 0 => some ⟨{ fr := [(2, Dir.keep), (3, Dir.keep), (4, Dir.keep), (8, Dir.keep), (10, Dir.keep), (11, Dir.keep), (12, Dir.keep), (13, Dir.keep)], bx := [(4, [Dir.keep, Dir.keep, Dir.keep, Dir.keep, Dir.keep]), (8, [Dir.keep, Dir.keep, Dir.keep, Dir.keep, Dir.keep]), (10, [Dir.own 1001000 106 tFoe, Dir.own 1001001 34 tSpot, Dir.own 1001002 9 Ty.str, Dir.frz tPart, Dir.keep]), (12, [Dir.keep, Dir.keep, Dir.keep, Dir.keep, Dir.keep, Dir.keep])], os := [] }, [(0, { fr := [(8, Dir.keep), (10, Dir.keep), (11, Dir.keep)], bx := [(8, [Dir.keep, Dir.keep, Dir.keep, Dir.keep, Dir.keep]), (10, [Dir.own 1001000 106 tFoe, Dir.own 1001001 34 tSpot, Dir.own 1001002 9 Ty.str, Dir.frz tPart, Dir.keep])], os := [] })], ⟨[], [], []⟩⟩
  | _ => none
noncomputable def fi_spec_ClaimOver : FI := ⟨Tryz.f15.results.toList, bodyOf Tryz.f15.body, Tryz.f15.ntmps, an_spec_ClaimOver⟩
theorem ok_spec_ClaimOver : FnOK Tryz.prog 15 fi_spec_ClaimOver := ⟨⟨Tryz.f15, Tryz.func15, by kernel_rfl, rfl, rfl, by kernel_rfl⟩, by kernel_rfl⟩
def phiL_spec_ClaimOver (N : Nat) : List (Nat × Summ) := [(45, sm_spec_ClaimBookOk N), (52, sm_spec_l2Copy N), (58, sm_spec_l2Part N), (61, sm_spec_l4Moved N), (62, sm_spec_l2Spot N), (63, sm_spec_l4Settle N)]
def sg_spec_ClaimOver : Summ := sigOf [.d tBook true, .d tInt false, .d tInt false, .d (.bool) false] false [.own tBook true [(106, none), (34, (some [9])), (9, none), (94, (some [9, 82, 9, 9]))], .d tInt false]
def S_spec_ClaimOver_0 (b : Book) (moved : Int) (done : Bool) (r_1 : Book) (r_2 : Int) (t8c4 : Int) (w12c0 : Int) (w12c1 : Int) (w12c2 : List Txt) (w12c3 : List Use) (w12c4 : List Txt) (w12c5 : List Txt) (i13 : Int) (x10c1a : List Spot) : St := { fr := [(2, AV.w (V1.one (C.v tInt moved))), (3, AV.w (V1.one (C.v Ty.bool done))), (4, AV.w (V1.one (C.pb 4 0))), (8, AV.w (V1.one (C.pb 8 0))), (10, AV.w (V1.one (C.pb 10 0))), (11, AV.w (V1.one (C.v tInt r_2))), (12, AV.w (V1.one (C.pb 12 0))), (13, AV.w (V1.one (C.v tInt i13)))], H := [(4, Ob.box [C.v tFoe.slice b.1, C.v tSpot.slice b.2.1, C.v tTxts b.2.2.1, C.v tPart.slice b.2.2.2.1, C.v tInt b.2.2.2.2]), (8, Ob.box [C.emp, C.emp, C.emp, C.emp, C.v tInt t8c4]), (10, Ob.box [C.arr 1001000, C.arr 1001001, C.arr 1001002, C.v tPart.slice r_1.2.2.2.1, C.v tInt r_1.2.2.2.2]), (12, Ob.box [C.v tInt w12c0, C.v tInt w12c1, C.v tTxts w12c2, C.v tUse.slice w12c3, C.v tTxts w12c4, C.v tTxts w12c5]), (1001000, Ob.arr 106 tFoe r_1.1), (1001001, Ob.arr 34 tSpot x10c1a), (1001002, Ob.arr 9 Ty.str r_1.2.2.1)] }
noncomputable def E_spec_ClaimOver (N : Nat) : Env := envOf (tabOf tabL) (tabS (phiL_spec_ClaimOver N)) inl0 N fi_spec_ClaimOver []
noncomputable def K_spec_ClaimOver := (kFun (tabOf tabL) fi_spec_ClaimOver.res (kT (ofDs [tBook, tInt]) sg_spec_ClaimOver []))
noncomputable def its_spec_ClaimOver_0 (N : Nat) (n : Nat) : St → Option (Book × Int) := fun S' => iter [] (annAt fi_spec_ClaimOver 0) (code (E_spec_ClaimOver N) (lpIn fi_spec_ClaimOver.body 0 0) 0) n S' (contOf (E_spec_ClaimOver N) fi_spec_ClaimOver.body 0 0 K_spec_ClaimOver)
noncomputable def it_spec_ClaimOver_0 (N : Nat) (b : Book) (moved : Int) (done : Bool) (r_1 : Book) (r_2 : Int) (t8c4 : Int) (w12c0 : Int) (w12c1 : Int) (w12c2 : List Txt) (w12c3 : List Use) (w12c4 : List Txt) (w12c5 : List Txt) (n : Nat) : Int → (List Spot) → Option (Book × Int) := fun i13 x10c1a => its_spec_ClaimOver_0 N n (S_spec_ClaimOver_0 b moved done r_1 r_2 t8c4 w12c0 w12c1 w12c2 w12c3 w12c4 w12c5 i13 x10c1a)
theorem fe_spec_ClaimOver_0 (N : Nat) : it_spec_ClaimOver_0 N = spec_ClaimOver_0 N := funext fun b => funext fun moved => funext fun done => funext fun r_1 => funext fun r_2 => funext fun t8c4 => funext fun w12c0 => funext fun w12c1 => funext fun w12c2 => funext fun w12c3 => funext fun w12c4 => funext fun w12c5 => funext (lp_all (by kernel_rfl) fun n => by
    show _ = spec_ClaimOver_0r N b moved done r_1 r_2 t8c4 w12c0 w12c1 w12c2 w12c3 w12c4 w12c5 (it_spec_ClaimOver_0 N b moved done r_1 r_2 t8c4 w12c0 w12c1 w12c2 w12c3 w12c4 w12c5 n)
    kernel_rfl)
theorem run_spec_ClaimOver (N : Nat) (b : (List ((List UInt8) × (List UInt8))) × ((List ((List UInt8) × ((Int) × ((Int) × ((Int) × (List Txt)))))) × ((List Txt) × ((List (((Int) × ((Int) × ((List Txt) × ((List ((List UInt8) × ((Int) × (Int)))) × ((List Txt) × (List Txt)))))) × (Bool))) × (Int))))) (number : Int) (moved : Int) (done : Bool) : runST (ofDs [tBook, tInt]) (tabOf tabL) (tabS (phiL_spec_ClaimOver N)) inl0 N fi_spec_ClaimOver sg_spec_ClaimOver [⟨tBook, b⟩, ⟨tInt, number⟩, ⟨tInt, moved⟩, ⟨.bool, done⟩] = F.spec_ClaimOver N b number moved done := by
    show _ = F.spec_ClaimOverb N (F.spec_ClaimOver_0 N) b number moved done
    rw [← fe_spec_ClaimOver_0 N]
    kernel_rfl
def sm_spec_ClaimOver (N : Nat) : Summ := summOf [.d tBook true, .d tInt false, .d tInt false, .d (.bool) false] false [.own tBook true [(106, none), (34, (some [9])), (9, none), (94, (some [9, 82, 9, 9]))], .d tInt false] [tBook, tInt] (F.spec_ClaimOver N)
theorem con_spec_ClaimOver (N : Nat) : Contract Tryz.prog 15 (sm_spec_ClaimOver N) := con_of (N := N) tabOK mixed (callOK_list (l := phiL_spec_ClaimOver N) (allc rfl (con_spec_ClaimBookOk N) (allc rfl (con_spec_l2Copy N) (allc rfl (con_spec_l2Part N) (allc rfl (con_spec_l4Moved N) (allc rfl (con_spec_l2Spot N) (allc rfl (con_spec_l4Settle N) trivial))))))) (inl0_ok _) ok_spec_ClaimOver (by decide) fun b number moved done => run_spec_ClaimOver N b number moved done
def an_impl_in : Nat → Option Ann := fun _ => none
noncomputable def fi_impl_in : FI := ⟨Tryz.f71.results.toList, bodyOf Tryz.f71.body, Tryz.f71.ntmps, an_impl_in⟩
theorem ok_impl_in : FnOK Tryz.prog 71 fi_impl_in := ⟨⟨Tryz.f71, Tryz.func71, by kernel_rfl, rfl, rfl, by kernel_rfl⟩, by kernel_rfl⟩
def phiL_impl_in (N : Nat) : List (Nat × Summ) := []
def sg_impl_in : Summ := sigOf [.d tInt false, .d tInt false, .d tInt false] false [.d (.bool) false]
theorem run_impl_in (N : Nat) (n : Int) (low : Int) (high : Int) : runST (ofDs [.bool]) (tabOf tabL) (tabS (phiL_impl_in N)) inl0 N fi_impl_in sg_impl_in [⟨tInt, n⟩, ⟨tInt, low⟩, ⟨tInt, high⟩] = F.impl_in N n low high := by kernel_rfl
def sm_impl_in (N : Nat) : Summ := summOf [.d tInt false, .d tInt false, .d tInt false] false [.d (.bool) false] [.bool] (F.impl_in N)
theorem con_impl_in (N : Nat) : Contract Tryz.prog 71 (sm_impl_in N) := con_of (N := N) tabOK mixed (callOK_list (l := phiL_impl_in N) trivial) (inl0_ok _) ok_impl_in (by decide) fun n low high => run_impl_in N n low high
def an_impl_name : Nat → Option Ann
  | 0 => some ⟨{ fr := [(0, Dir.keep), (3, Dir.keep)], bx := [], os := [] }, [(0, { fr := [], bx := [], os := [] })], { fr := [(2, Dir.keep)], bx := [], os := [] }⟩
  | _ => none
noncomputable def fi_impl_name : FI := ⟨Tryz.f72.results.toList, bodyOf Tryz.f72.body, Tryz.f72.ntmps, an_impl_name⟩
theorem ok_impl_name : FnOK Tryz.prog 72 fi_impl_name := ⟨⟨Tryz.f72, Tryz.func72, by kernel_rfl, rfl, rfl, by kernel_rfl⟩, by kernel_rfl⟩
def phiL_impl_name (N : Nat) : List (Nat × Summ) := [(71, sm_impl_in N)]
def sg_impl_name : Summ := sigOf [.d (.str) false] false [.d (.bool) false]
def S_impl_name_0 (s : Txt) (i3 : Int) : St := { fr := [(0, AV.w (V1.one (C.v Ty.str s))), (3, AV.w (V1.one (C.v tInt i3)))], H := [] }
noncomputable def E_impl_name (N : Nat) : Env := envOf (tabOf tabL) (tabS (phiL_impl_name N)) inl0 N fi_impl_name []
noncomputable def K_impl_name := (kFun (tabOf tabL) fi_impl_name.res (kT (ofDs [.bool]) sg_impl_name []))
noncomputable def its_impl_name_0 (N : Nat) (n : Nat) : St → Option Bool := fun S' => iter [] (annAt fi_impl_name 0) (code (E_impl_name N) (lpIn fi_impl_name.body 0 0) 0) n S' (contOf (E_impl_name N) fi_impl_name.body 0 0 K_impl_name)
noncomputable def it_impl_name_0 (N : Nat) (s : Txt) (n : Nat) : Int → Option Bool := fun i3 => its_impl_name_0 N n (S_impl_name_0 s i3)
theorem fe_impl_name_0 (N : Nat) : it_impl_name_0 N = impl_name_0 N := funext fun s => funext (lp_all (by kernel_rfl) fun n => by
    show _ = impl_name_0r N s (it_impl_name_0 N s n)
    kernel_rfl)
theorem run_impl_name (N : Nat) (s : List UInt8) : runST (ofDs [.bool]) (tabOf tabL) (tabS (phiL_impl_name N)) inl0 N fi_impl_name sg_impl_name [⟨.str, s⟩] = F.impl_name N s := by
    show _ = F.impl_nameb N (F.impl_name_0 N) s
    rw [← fe_impl_name_0 N]
    kernel_rfl
def sm_impl_name (N : Nat) : Summ := summOf [.d (.str) false] false [.d (.bool) false] [.bool] (F.impl_name N)
theorem con_impl_name (N : Nat) : Contract Tryz.prog 72 (sm_impl_name N) := con_of (N := N) tabOK mixed (callOK_list (l := phiL_impl_name N) (allc rfl (con_impl_in N) trivial)) (inl0_ok _) ok_impl_name (by decide) fun s => run_impl_name N s
def an_impl_names : Nat → Option Ann
  | 0 => some ⟨{ fr := [(0, Dir.keep), (11, Dir.keep), (12, Dir.keep), (13, Dir.keep)], bx := [], os := [] }, [(0, { fr := [], bx := [], os := [] })], { fr := [(4, Dir.keep)], bx := [], os := [] }⟩
  | _ => none
noncomputable def fi_impl_names : FI := ⟨Tryz.f70.results.toList, bodyOf Tryz.f70.body, Tryz.f70.ntmps, an_impl_names⟩
theorem ok_impl_names : FnOK Tryz.prog 70 fi_impl_names := ⟨⟨Tryz.f70, Tryz.func70, by kernel_rfl, rfl, rfl, by kernel_rfl⟩, by kernel_rfl⟩
def phiL_impl_names (N : Nat) : List (Nat × Summ) := [(72, sm_impl_name N)]
def sg_impl_names : Summ := sigOf [.d tTxts false, .d tInt false] false [.d (.bool) false]
def S_impl_names_0 (l : List Txt) (t12 : Int) (t13 : Int) : St := { fr := [(0, AV.w (V1.one (C.v tTxts l))), (11, AV.w (V1.one (C.v tTxts l))), (12, AV.w (V1.one (C.v tInt t12))), (13, AV.w (V1.one (C.v tInt t13)))], H := [] }
noncomputable def E_impl_names (N : Nat) : Env := envOf (tabOf tabL) (tabS (phiL_impl_names N)) inl0 N fi_impl_names []
noncomputable def K_impl_names := (kFun (tabOf tabL) fi_impl_names.res (kT (ofDs [.bool]) sg_impl_names []))
noncomputable def its_impl_names_0 (N : Nat) (n : Nat) : St → Option Bool := fun S' => iter [] (annAt fi_impl_names 0) (code (E_impl_names N) (lpIn fi_impl_names.body 0 0) 0) n S' (contOf (E_impl_names N) fi_impl_names.body 0 0 K_impl_names)
noncomputable def it_impl_names_0 (N : Nat) (l : List Txt) (t12 : Int) (n : Nat) : Int → Option Bool := fun t13 => its_impl_names_0 N n (S_impl_names_0 l t12 t13)
theorem fe_impl_names_0 (N : Nat) : it_impl_names_0 N = impl_names_0 N := funext fun l => funext fun t12 => funext (lp_all (by kernel_rfl) fun n => by
    show _ = impl_names_0r N l t12 (it_impl_names_0 N l t12 n)
    kernel_rfl)
theorem run_impl_names (N : Nat) (l : List (List UInt8)) (most : Int) : runST (ofDs [.bool]) (tabOf tabL) (tabS (phiL_impl_names N)) inl0 N fi_impl_names sg_impl_names [⟨tTxts, l⟩, ⟨tInt, most⟩] = F.impl_names N l most := by
    show _ = F.impl_namesb N (F.impl_names_0 N) l most
    rw [← fe_impl_names_0 N]
    kernel_rfl
def sm_impl_names (N : Nat) : Summ := summOf [.d tTxts false, .d tInt false] false [.d (.bool) false] [.bool] (F.impl_names N)
theorem con_impl_names (N : Nat) : Contract Tryz.prog 70 (sm_impl_names N) := con_of (N := N) tabOK mixed (callOK_list (l := phiL_impl_names N) (allc rfl (con_impl_name N) trivial)) (inl0_ok _) ok_impl_names (by decide) fun l most => run_impl_names N l most
def an_impl_ClaimFoe_ahead : Nat → Option Ann := fun _ => none
noncomputable def fi_impl_ClaimFoe_ahead : FI := ⟨Tryz.f73.results.toList, bodyOf Tryz.f73.body, Tryz.f73.ntmps, an_impl_ClaimFoe_ahead⟩
theorem ok_impl_ClaimFoe_ahead : FnOK Tryz.prog 73 fi_impl_ClaimFoe_ahead := ⟨⟨Tryz.f73, Tryz.func73, by kernel_rfl, rfl, rfl, by kernel_rfl⟩, by kernel_rfl⟩
def phiL_impl_ClaimFoe_ahead (N : Nat) : List (Nat × Summ) := []
def sg_impl_ClaimFoe_ahead : Summ := sigOf [.d tFoe true, .d tFoe true] false [.d (.bool) false]
theorem run_impl_ClaimFoe_ahead (N : Nat) (f : (List UInt8) × (List UInt8)) (g : (List UInt8) × (List UInt8)) : runST (ofDs [.bool]) (tabOf tabL) (tabS (phiL_impl_ClaimFoe_ahead N)) inl0 N fi_impl_ClaimFoe_ahead sg_impl_ClaimFoe_ahead [⟨tFoe, f⟩, ⟨tFoe, g⟩] = F.impl_ClaimFoe_ahead N f g := by kernel_rfl
def sm_impl_ClaimFoe_ahead (N : Nat) : Summ := summOf [.d tFoe true, .d tFoe true] false [.d (.bool) false] [.bool] (F.impl_ClaimFoe_ahead N)
theorem con_impl_ClaimFoe_ahead (N : Nat) : Contract Tryz.prog 73 (sm_impl_ClaimFoe_ahead N) := con_of (N := N) tabOK mixed (callOK_list (l := phiL_impl_ClaimFoe_ahead N) trivial) (inl0_ok _) ok_impl_ClaimFoe_ahead (by decide) fun f g => run_impl_ClaimFoe_ahead N f g
def an_slices_Index_string : Nat → Option Ann
  | 0 => some ⟨{ fr := [(0, Dir.keep), (1, Dir.keep), (7, Dir.keep), (8, Dir.keep)], bx := [], os := [] }, [(0, { fr := [], bx := [], os := [] })], { fr := [(4, Dir.keep)], bx := [], os := [] }⟩
  | _ => none
noncomputable def fi_slices_Index_string : FI := ⟨Tryz.f159.results.toList, bodyOf Tryz.f159.body, Tryz.f159.ntmps, an_slices_Index_string⟩
theorem ok_slices_Index_string : FnOK Tryz.prog 159 fi_slices_Index_string := ⟨⟨Tryz.f159, Tryz.func159, by kernel_rfl, rfl, rfl, by kernel_rfl⟩, by kernel_rfl⟩
def phiL_slices_Index_string (N : Nat) : List (Nat × Summ) := []
def sg_slices_Index_string : Summ := sigOf [.d tTxts false, .d (.str) false] false [.d tInt false]
def S_slices_Index_string_0 (s : List Txt) (v : Txt) (t7 : Int) (t8 : Int) : St := { fr := [(0, AV.w (V1.one (C.v tTxts s))), (1, AV.w (V1.one (C.v Ty.str v))), (7, AV.w (V1.one (C.v tInt t7))), (8, AV.w (V1.one (C.v tInt t8)))], H := [] }
noncomputable def E_slices_Index_string (N : Nat) : Env := envOf (tabOf tabL) (tabS (phiL_slices_Index_string N)) inl0 N fi_slices_Index_string []
noncomputable def K_slices_Index_string := (kFun (tabOf tabL) fi_slices_Index_string.res (kT (ofDs [tInt]) sg_slices_Index_string []))
noncomputable def its_slices_Index_string_0 (N : Nat) (n : Nat) : St → Option Int := fun S' => iter [] (annAt fi_slices_Index_string 0) (code (E_slices_Index_string N) (lpIn fi_slices_Index_string.body 0 0) 0) n S' (contOf (E_slices_Index_string N) fi_slices_Index_string.body 0 0 K_slices_Index_string)
noncomputable def it_slices_Index_string_0 (N : Nat) (s : List Txt) (v : Txt) (t7 : Int) (n : Nat) : Int → Option Int := fun t8 => its_slices_Index_string_0 N n (S_slices_Index_string_0 s v t7 t8)
theorem fe_slices_Index_string_0 (N : Nat) : it_slices_Index_string_0 N = slices_Index_string_0 N := funext fun s => funext fun v => funext fun t7 => funext (lp_all (by kernel_rfl) fun n => by
    show _ = slices_Index_string_0r N s v t7 (it_slices_Index_string_0 N s v t7 n)
    kernel_rfl)
theorem run_slices_Index_string (N : Nat) (s : List (List UInt8)) (v : List UInt8) : runST (ofDs [tInt]) (tabOf tabL) (tabS (phiL_slices_Index_string N)) inl0 N fi_slices_Index_string sg_slices_Index_string [⟨tTxts, s⟩, ⟨.str, v⟩] = F.slices_Index_string N s v := by
    show _ = F.slices_Index_stringb N (F.slices_Index_string_0 N) s v
    rw [← fe_slices_Index_string_0 N]
    kernel_rfl
def sm_slices_Index_string (N : Nat) : Summ := summOf [.d tTxts false, .d (.str) false] false [.d tInt false] [tInt] (F.slices_Index_string N)
theorem con_slices_Index_string (N : Nat) : Contract Tryz.prog 159 (sm_slices_Index_string N) := con_of (N := N) tabOK mixed (callOK_list (l := phiL_slices_Index_string N) trivial) (inl0_ok _) ok_slices_Index_string (by decide) fun s v => run_slices_Index_string N s v
def an_slices_Contains_string : Nat → Option Ann := fun _ => none
noncomputable def fi_slices_Contains_string : FI := ⟨Tryz.f101.results.toList, bodyOf Tryz.f101.body, Tryz.f101.ntmps, an_slices_Contains_string⟩
theorem ok_slices_Contains_string : FnOK Tryz.prog 101 fi_slices_Contains_string := ⟨⟨Tryz.f101, Tryz.func101, by kernel_rfl, rfl, rfl, by kernel_rfl⟩, by kernel_rfl⟩
def phiL_slices_Contains_string (N : Nat) : List (Nat × Summ) := [(159, sm_slices_Index_string N)]
def sg_slices_Contains_string : Summ := sigOf [.d tTxts false, .d (.str) false] false [.d (.bool) false]
theorem run_slices_Contains_string (N : Nat) (s : List (List UInt8)) (v : List UInt8) : runST (ofDs [.bool]) (tabOf tabL) (tabS (phiL_slices_Contains_string N)) inl0 N fi_slices_Contains_string sg_slices_Contains_string [⟨tTxts, s⟩, ⟨.str, v⟩] = F.slices_Contains_string N s v := by kernel_rfl
def sm_slices_Contains_string (N : Nat) : Summ := summOf [.d tTxts false, .d (.str) false] false [.d (.bool) false] [.bool] (F.slices_Contains_string N)
theorem con_slices_Contains_string (N : Nat) : Contract Tryz.prog 101 (sm_slices_Contains_string N) := con_of (N := N) tabOK mixed (callOK_list (l := phiL_slices_Contains_string N) (allc rfl (con_slices_Index_string N) trivial)) (inl0_ok _) ok_slices_Contains_string (by decide) fun s v => run_slices_Contains_string N s v
def an_impl_ClaimBook_foes : Nat → Option Ann
  | 0 => some ⟨{ fr := [(1, Dir.keep), (2, Dir.keep), (10, Dir.keep), (11, Dir.keep), (12, Dir.keep)], bx := [], os := [] }, [(0, { fr := [], bx := [], os := [] })], { fr := [(6, Dir.keep)], bx := [], os := [] }⟩
  | _ => none
noncomputable def fi_impl_ClaimBook_foes : FI := ⟨Tryz.f74.results.toList, bodyOf Tryz.f74.body, Tryz.f74.ntmps, an_impl_ClaimBook_foes⟩
theorem ok_impl_ClaimBook_foes : FnOK Tryz.prog 74 fi_impl_ClaimBook_foes := ⟨⟨Tryz.f74, Tryz.func74, by kernel_rfl, rfl, rfl, by kernel_rfl⟩, by kernel_rfl⟩
def phiL_impl_ClaimBook_foes (N : Nat) : List (Nat × Summ) := [(101, sm_slices_Contains_string N)]
def sg_impl_ClaimBook_foes : Summ := sigOf [.d tBook true, .d tTxts false, .d tTxts false] false [.d (.bool) false]
def S_impl_ClaimBook_foes_0 (b : Book) (x : List Txt) (y : List Txt) (t11 : Int) (t12 : Int) : St := { fr := [(1, AV.w (V1.one (C.v tTxts x))), (2, AV.w (V1.one (C.v tTxts y))), (10, AV.w (V1.one (C.v tFoe.slice b.1))), (11, AV.w (V1.one (C.v tInt t11))), (12, AV.w (V1.one (C.v tInt t12)))], H := [] }
noncomputable def E_impl_ClaimBook_foes (N : Nat) : Env := envOf (tabOf tabL) (tabS (phiL_impl_ClaimBook_foes N)) inl0 N fi_impl_ClaimBook_foes []
noncomputable def K_impl_ClaimBook_foes := (kFun (tabOf tabL) fi_impl_ClaimBook_foes.res (kT (ofDs [.bool]) sg_impl_ClaimBook_foes []))
noncomputable def its_impl_ClaimBook_foes_0 (N : Nat) (n : Nat) : St → Option Bool := fun S' => iter [] (annAt fi_impl_ClaimBook_foes 0) (code (E_impl_ClaimBook_foes N) (lpIn fi_impl_ClaimBook_foes.body 0 0) 0) n S' (contOf (E_impl_ClaimBook_foes N) fi_impl_ClaimBook_foes.body 0 0 K_impl_ClaimBook_foes)
noncomputable def it_impl_ClaimBook_foes_0 (N : Nat) (b : Book) (x : List Txt) (y : List Txt) (t11 : Int) (n : Nat) : Int → Option Bool := fun t12 => its_impl_ClaimBook_foes_0 N n (S_impl_ClaimBook_foes_0 b x y t11 t12)
theorem fe_impl_ClaimBook_foes_0 (N : Nat) : it_impl_ClaimBook_foes_0 N = impl_ClaimBook_foes_0 N := funext fun b => funext fun x => funext fun y => funext fun t11 => funext (lp_all (by kernel_rfl) fun n => by
    show _ = impl_ClaimBook_foes_0r N b x y t11 (it_impl_ClaimBook_foes_0 N b x y t11 n)
    kernel_rfl)
theorem run_impl_ClaimBook_foes (N : Nat) (b : (List ((List UInt8) × (List UInt8))) × ((List ((List UInt8) × ((Int) × ((Int) × ((Int) × (List Txt)))))) × ((List Txt) × ((List (((Int) × ((Int) × ((List Txt) × ((List ((List UInt8) × ((Int) × (Int)))) × ((List Txt) × (List Txt)))))) × (Bool))) × (Int))))) (x : List (List UInt8)) (y : List (List UInt8)) : runST (ofDs [.bool]) (tabOf tabL) (tabS (phiL_impl_ClaimBook_foes N)) inl0 N fi_impl_ClaimBook_foes sg_impl_ClaimBook_foes [⟨tBook, b⟩, ⟨tTxts, x⟩, ⟨tTxts, y⟩] = F.impl_ClaimBook_foes N b x y := by
    show _ = F.impl_ClaimBook_foesb N (F.impl_ClaimBook_foes_0 N) b x y
    rw [← fe_impl_ClaimBook_foes_0 N]
    kernel_rfl
def sm_impl_ClaimBook_foes (N : Nat) : Summ := summOf [.d tBook true, .d tTxts false, .d tTxts false] false [.d (.bool) false] [.bool] (F.impl_ClaimBook_foes N)
theorem con_impl_ClaimBook_foes (N : Nat) : Contract Tryz.prog 74 (sm_impl_ClaimBook_foes N) := con_of (N := N) tabOK mixed (callOK_list (l := phiL_impl_ClaimBook_foes N) (allc rfl (con_slices_Contains_string N) trivial)) (inl0_ok _) ok_impl_ClaimBook_foes (by decide) fun b x y => run_impl_ClaimBook_foes N b x y
def an_impl_common_c1 : Nat → Option Ann := fun _ => none
noncomputable def fi_impl_common_c1 : FI := ⟨Tryz.f175.results.toList, bodyOf Tryz.f175.body, Tryz.f175.ntmps, an_impl_common_c1⟩
theorem ok_impl_common_c1 : FnOK Tryz.prog 175 fi_impl_common_c1 := ⟨⟨Tryz.f175, Tryz.func175, by kernel_rfl, rfl, rfl, by kernel_rfl⟩, by kernel_rfl⟩
def phiL_impl_common_c1 (N : Nat) : List (Nat × Summ) := [(101, sm_slices_Contains_string N)]
def sg_impl_common_c1 : Summ := sigOf [.d (.str) false, .bx tTxts] true [.d (.bool) false]
theorem run_impl_common_c1 (N : Nat) (s : List UInt8) (p1 : List (List UInt8)) : runST (ofDs [.bool, tTxts]) (tabOf tabL) (tabS (phiL_impl_common_c1 N)) inl0 N fi_impl_common_c1 sg_impl_common_c1 [⟨.str, s⟩, ⟨tTxts, p1⟩] = F.impl_common_c1 N s p1 := by kernel_rfl
def sm_impl_common_c1 (N : Nat) : Summ := summOf [.d (.str) false, .bx tTxts] true [.d (.bool) false] [.bool, tTxts] (F.impl_common_c1 N)
theorem con_impl_common_c1 (N : Nat) : Contract Tryz.prog 175 (sm_impl_common_c1 N) := con_of (N := N) tabOK mixed (callOK_list (l := phiL_impl_common_c1 N) (allc rfl (con_slices_Contains_string N) trivial)) (inl0_ok _) ok_impl_common_c1 (by decide) fun s p1 => run_impl_common_c1 N s p1
def an_slices_IndexFunc_string__impl_common_c1 : Nat → Option Ann
  | 0 => some ⟨{ fr := [(0, Dir.keep), (1, Dir.keep), (7, Dir.keep), (8, Dir.keep)], bx := [(500001, [Dir.keep])], os := [] }, [(0, { fr := [], bx := [(500001, [Dir.keep])], os := [] })], { fr := [(4, Dir.keep)], bx := [(500001, [Dir.keep])], os := [] }⟩
  | _ => none
noncomputable def fi_slices_IndexFunc_string__impl_common_c1 : FI := ⟨Tryz.f179.results.toList, bodyOf Tryz.f179.body, Tryz.f179.ntmps, an_slices_IndexFunc_string__impl_common_c1⟩
theorem ok_slices_IndexFunc_string__impl_common_c1 : FnOK Tryz.prog 179 fi_slices_IndexFunc_string__impl_common_c1 := ⟨⟨Tryz.f179, Tryz.func179, by kernel_rfl, rfl, rfl, by kernel_rfl⟩, by kernel_rfl⟩
def phiL_slices_IndexFunc_string__impl_common_c1 (N : Nat) : List (Nat × Summ) := [(175, sm_impl_common_c1 N)]
def sg_slices_IndexFunc_string__impl_common_c1 : Summ := sigOf [.d tTxts false, .cl 175 [tTxts]] true [.d tInt false]
def S_slices_IndexFunc_string__impl_common_c1_0 (s : List Txt) (t7 : Int) (t8 : Int) (fpc0 : List Txt) : St := { fr := [(0, AV.w (V1.one (C.v tTxts s))), (1, AV.w (V1.one (C.fn 175 [500001]))), (7, AV.w (V1.one (C.v tInt t7))), (8, AV.w (V1.one (C.v tInt t8)))], H := [(500001, Ob.box [C.v tTxts fpc0])] }
noncomputable def E_slices_IndexFunc_string__impl_common_c1 (N : Nat) : Env := envOf (tabOf tabL) (tabS (phiL_slices_IndexFunc_string__impl_common_c1 N)) inl0 N fi_slices_IndexFunc_string__impl_common_c1 [500001]
noncomputable def K_slices_IndexFunc_string__impl_common_c1 := (kFun (tabOf tabL) fi_slices_IndexFunc_string__impl_common_c1.res (kT (ofDs [tInt, tTxts]) sg_slices_IndexFunc_string__impl_common_c1 [(500001, .bx tTxts)]))
noncomputable def its_slices_IndexFunc_string__impl_common_c1_0 (N : Nat) (n : Nat) : St → Option (Int × List Txt) := fun S' => iter [500001] (annAt fi_slices_IndexFunc_string__impl_common_c1 0) (code (E_slices_IndexFunc_string__impl_common_c1 N) (lpIn fi_slices_IndexFunc_string__impl_common_c1.body 0 0) 0) n S' (contOf (E_slices_IndexFunc_string__impl_common_c1 N) fi_slices_IndexFunc_string__impl_common_c1.body 0 0 K_slices_IndexFunc_string__impl_common_c1)
noncomputable def it_slices_IndexFunc_string__impl_common_c1_0 (N : Nat) (s : List Txt) (t7 : Int) (n : Nat) : Int → (List Txt) → Option (Int × List Txt) := fun t8 fpc0 => its_slices_IndexFunc_string__impl_common_c1_0 N n (S_slices_IndexFunc_string__impl_common_c1_0 s t7 t8 fpc0)
theorem fe_slices_IndexFunc_string__impl_common_c1_0 (N : Nat) : it_slices_IndexFunc_string__impl_common_c1_0 N = slices_IndexFunc_string__impl_common_c1_0 N := funext fun s => funext fun t7 => funext (lp_all (by kernel_rfl) fun n => by
    show _ = slices_IndexFunc_string__impl_common_c1_0r N s t7 (it_slices_IndexFunc_string__impl_common_c1_0 N s t7 n)
    kernel_rfl)
theorem run_slices_IndexFunc_string__impl_common_c1 (N : Nat) (s : List (List UInt8)) (p1 : List (List UInt8)) : runST (ofDs [tInt, tTxts]) (tabOf tabL) (tabS (phiL_slices_IndexFunc_string__impl_common_c1 N)) inl0 N fi_slices_IndexFunc_string__impl_common_c1 sg_slices_IndexFunc_string__impl_common_c1 [⟨tTxts, s⟩, ⟨tTxts, p1⟩] = F.slices_IndexFunc_string__impl_common_c1 N s p1 := by
    show _ = F.slices_IndexFunc_string__impl_common_c1b N (F.slices_IndexFunc_string__impl_common_c1_0 N) s p1
    rw [← fe_slices_IndexFunc_string__impl_common_c1_0 N]
    kernel_rfl
def sm_slices_IndexFunc_string__impl_common_c1 (N : Nat) : Summ := summOf [.d tTxts false, .cl 175 [tTxts]] true [.d tInt false] [tInt, tTxts] (F.slices_IndexFunc_string__impl_common_c1 N)
theorem con_slices_IndexFunc_string__impl_common_c1 (N : Nat) : Contract Tryz.prog 179 (sm_slices_IndexFunc_string__impl_common_c1 N) := con_of (N := N) tabOK mixed (callOK_list (l := phiL_slices_IndexFunc_string__impl_common_c1 N) (allc rfl (con_impl_common_c1 N) trivial)) (inl0_ok _) ok_slices_IndexFunc_string__impl_common_c1 (by decide) fun s p1 => run_slices_IndexFunc_string__impl_common_c1 N s p1
def an_slices_ContainsFunc_string__impl_common_c1 : Nat → Option Ann := fun _ => none
noncomputable def fi_slices_ContainsFunc_string__impl_common_c1 : FI := ⟨Tryz.f168.results.toList, bodyOf Tryz.f168.body, Tryz.f168.ntmps, an_slices_ContainsFunc_string__impl_common_c1⟩
theorem ok_slices_ContainsFunc_string__impl_common_c1 : FnOK Tryz.prog 168 fi_slices_ContainsFunc_string__impl_common_c1 := ⟨⟨Tryz.f168, Tryz.func168, by kernel_rfl, rfl, rfl, by kernel_rfl⟩, by kernel_rfl⟩
def phiL_slices_ContainsFunc_string__impl_common_c1 (N : Nat) : List (Nat × Summ) := [(17600179, sm_slices_IndexFunc_string__impl_common_c1 N)]
def sg_slices_ContainsFunc_string__impl_common_c1 : Summ := sigOf [.d tTxts false, .cl 175 [tTxts]] true [.d (.bool) false]
theorem run_slices_ContainsFunc_string__impl_common_c1 (N : Nat) (s : List (List UInt8)) (p1 : List (List UInt8)) : runST (ofDs [.bool, tTxts]) (tabOf tabL) (tabS (phiL_slices_ContainsFunc_string__impl_common_c1 N)) inl0 N fi_slices_ContainsFunc_string__impl_common_c1 sg_slices_ContainsFunc_string__impl_common_c1 [⟨tTxts, s⟩, ⟨tTxts, p1⟩] = F.slices_ContainsFunc_string__impl_common_c1 N s p1 := by kernel_rfl
def sm_slices_ContainsFunc_string__impl_common_c1 (N : Nat) : Summ := summOf [.d tTxts false, .cl 175 [tTxts]] true [.d (.bool) false] [.bool, tTxts] (F.slices_ContainsFunc_string__impl_common_c1 N)
theorem con_slices_ContainsFunc_string__impl_common_c1 (N : Nat) : Contract Tryz.prog 168 (sm_slices_ContainsFunc_string__impl_common_c1 N) := con_of (N := N) tabOK mixed (callOK_list (l := phiL_slices_ContainsFunc_string__impl_common_c1 N) (allc rfl (con_slices_IndexFunc_string__impl_common_c1 N) trivial)) (inl0_ok _) ok_slices_ContainsFunc_string__impl_common_c1 (by decide) fun s p1 => run_slices_ContainsFunc_string__impl_common_c1 N s p1
def an_impl_common : Nat → Option Ann := fun _ => none
noncomputable def fi_impl_common : FI := ⟨Tryz.f125.results.toList, bodyOf Tryz.f125.body, Tryz.f125.ntmps, an_impl_common⟩
theorem ok_impl_common : FnOK Tryz.prog 125 fi_impl_common := ⟨⟨Tryz.f125, Tryz.func125, by kernel_rfl, rfl, rfl, by kernel_rfl⟩, by kernel_rfl⟩
def phiL_impl_common (N : Nat) : List (Nat × Summ) := [(17600168, sm_slices_ContainsFunc_string__impl_common_c1 N)]
def sg_impl_common : Summ := sigOf [.d tTxts false, .d tTxts false] false [.d (.bool) false]
theorem run_impl_common (N : Nat) (a : List (List UInt8)) (b : List (List UInt8)) : runST (ofDs [.bool]) (tabOf tabL) (tabS (phiL_impl_common N)) inl0 N fi_impl_common sg_impl_common [⟨tTxts, a⟩, ⟨tTxts, b⟩] = F.impl_common N a b := by kernel_rfl
def sm_impl_common (N : Nat) : Summ := summOf [.d tTxts false, .d tTxts false] false [.d (.bool) false] [.bool] (F.impl_common N)
theorem con_impl_common (N : Nat) : Contract Tryz.prog 125 (sm_impl_common N) := con_of (N := N) tabOK mixed (callOK_list (l := phiL_impl_common N) (allc rfl (con_slices_ContainsFunc_string__impl_common_c1 N) trivial)) (inl0_ok _) ok_impl_common (by decide) fun a b => run_impl_common N a b
def an_impl_ClaimWantOk : Nat → Option Ann
  | 0 => some ⟨{ fr := [(1, Dir.keep), (3, Dir.keep), (40, Dir.keep), (41, Dir.keep), (42, Dir.keep)], bx := [(1, [Dir.keep, Dir.keep, Dir.keep, Dir.keep, Dir.keep, Dir.keep])], os := [] }, [(0, { fr := [(1, Dir.keep), (3, Dir.keep)], bx := [(1, [Dir.keep, Dir.keep, Dir.keep, Dir.keep, Dir.keep, Dir.keep])], os := [] })], { fr := [(2, Dir.keep)], bx := [], os := [] }⟩
  | _ => none
noncomputable def fi_impl_ClaimWantOk : FI := ⟨Tryz.f46.results.toList, bodyOf Tryz.f46.body, Tryz.f46.ntmps, an_impl_ClaimWantOk⟩
theorem ok_impl_ClaimWantOk : FnOK Tryz.prog 46 fi_impl_ClaimWantOk := ⟨⟨Tryz.f46, Tryz.func46, by kernel_rfl, rfl, rfl, by kernel_rfl⟩, by kernel_rfl⟩
def phiL_impl_ClaimWantOk (N : Nat) : List (Nat × Summ) := [(71, sm_impl_in N), (70, sm_impl_names N), (72, sm_impl_name N), (125, sm_impl_common N)]
def sg_impl_ClaimWantOk : Summ := sigOf [.d tWant true] false [.d (.bool) false]
def S_impl_ClaimWantOk_0 (w : Want) (move3 : Bool) (t41 : Int) (t42 : Int) : St := { fr := [(1, AV.w (V1.one (C.pb 1 0))), (3, AV.w (V1.one (C.v Ty.bool move3))), (40, AV.w (V1.one (C.v tUse.slice w.2.2.2.1))), (41, AV.w (V1.one (C.v tInt t41))), (42, AV.w (V1.one (C.v tInt t42)))], H := [(1, Ob.box [C.v tInt w.1, C.v tInt w.2.1, C.v tTxts w.2.2.1, C.v tUse.slice w.2.2.2.1, C.v tTxts w.2.2.2.2.1, C.v tTxts w.2.2.2.2.2])] }
noncomputable def E_impl_ClaimWantOk (N : Nat) : Env := envOf (tabOf tabL) (tabS (phiL_impl_ClaimWantOk N)) inl0 N fi_impl_ClaimWantOk []
noncomputable def K_impl_ClaimWantOk := (kFun (tabOf tabL) fi_impl_ClaimWantOk.res (kT (ofDs [.bool]) sg_impl_ClaimWantOk []))
noncomputable def its_impl_ClaimWantOk_0 (N : Nat) (n : Nat) : St → Option Bool := fun S' => iter [] (annAt fi_impl_ClaimWantOk 0) (code (E_impl_ClaimWantOk N) (lpIn fi_impl_ClaimWantOk.body 0 0) 0) n S' (contOf (E_impl_ClaimWantOk N) fi_impl_ClaimWantOk.body 0 0 K_impl_ClaimWantOk)
noncomputable def it_impl_ClaimWantOk_0 (N : Nat) (w : Want) (move3 : Bool) (t41 : Int) (n : Nat) : Int → Option Bool := fun t42 => its_impl_ClaimWantOk_0 N n (S_impl_ClaimWantOk_0 w move3 t41 t42)
theorem fe_impl_ClaimWantOk_0 (N : Nat) : it_impl_ClaimWantOk_0 N = impl_ClaimWantOk_0 N := funext fun w => funext fun move3 => funext fun t41 => funext (lp_all (by kernel_rfl) fun n => by
    show _ = impl_ClaimWantOk_0r N w move3 t41 (it_impl_ClaimWantOk_0 N w move3 t41 n)
    kernel_rfl)
theorem run_impl_ClaimWantOk (N : Nat) (w : (Int) × ((Int) × ((List Txt) × ((List ((List UInt8) × ((Int) × (Int)))) × ((List Txt) × (List Txt)))))) : runST (ofDs [.bool]) (tabOf tabL) (tabS (phiL_impl_ClaimWantOk N)) inl0 N fi_impl_ClaimWantOk sg_impl_ClaimWantOk [⟨tWant, w⟩] = F.impl_ClaimWantOk N w := by
    show _ = F.impl_ClaimWantOkb N (F.impl_ClaimWantOk_0 N) w
    rw [← fe_impl_ClaimWantOk_0 N]
    kernel_rfl
def sm_impl_ClaimWantOk (N : Nat) : Summ := summOf [.d tWant true] false [.d (.bool) false] [.bool] (F.impl_ClaimWantOk N)
theorem con_impl_ClaimWantOk (N : Nat) : Contract Tryz.prog 46 (sm_impl_ClaimWantOk N) := con_of (N := N) tabOK mixed (callOK_list (l := phiL_impl_ClaimWantOk N) (allc rfl (con_impl_in N) (allc rfl (con_impl_names N) (allc rfl (con_impl_name N) (allc rfl (con_impl_common N) trivial))))) (inl0_ok _) ok_impl_ClaimWantOk (by decide) fun w => run_impl_ClaimWantOk N w
def an_impl_ClaimBook_at_c1 : Nat → Option Ann := fun _ => none
noncomputable def fi_impl_ClaimBook_at_c1 : FI := ⟨Tryz.f138.results.toList, bodyOf Tryz.f138.body, Tryz.f138.ntmps, an_impl_ClaimBook_at_c1⟩
theorem ok_impl_ClaimBook_at_c1 : FnOK Tryz.prog 138 fi_impl_ClaimBook_at_c1 := ⟨⟨Tryz.f138, Tryz.func138, by kernel_rfl, rfl, rfl, by kernel_rfl⟩, by kernel_rfl⟩
def phiL_impl_ClaimBook_at_c1 (N : Nat) : List (Nat × Summ) := []
def sg_impl_ClaimBook_at_c1 : Summ := sigOf [.d tSpot true, .bx (.str)] true [.d (.bool) false]
theorem run_impl_ClaimBook_at_c1 (N : Nat) (s : (List UInt8) × ((Int) × ((Int) × ((Int) × (List Txt))))) (p1 : List UInt8) : runST (ofDs [.bool, .str]) (tabOf tabL) (tabS (phiL_impl_ClaimBook_at_c1 N)) inl0 N fi_impl_ClaimBook_at_c1 sg_impl_ClaimBook_at_c1 [⟨tSpot, s⟩, ⟨.str, p1⟩] = F.impl_ClaimBook_at_c1 N s p1 := by kernel_rfl
def sm_impl_ClaimBook_at_c1 (N : Nat) : Summ := summOf [.d tSpot true, .bx (.str)] true [.d (.bool) false] [.bool, .str] (F.impl_ClaimBook_at_c1 N)
theorem con_impl_ClaimBook_at_c1 (N : Nat) : Contract Tryz.prog 138 (sm_impl_ClaimBook_at_c1 N) := con_of (N := N) tabOK mixed (callOK_list (l := phiL_impl_ClaimBook_at_c1 N) trivial) (inl0_ok _) ok_impl_ClaimBook_at_c1 (by decide) fun s p1 => run_impl_ClaimBook_at_c1 N s p1
def an_slices_IndexFunc_ClaimSpot__impl_ClaimBook_at_c1 : Nat → Option Ann
  | 0 => some ⟨{ fr := [(0, Dir.keep), (1, Dir.keep), (7, Dir.keep), (8, Dir.keep)], bx := [(500001, [Dir.keep])], os := [] }, [(0, { fr := [], bx := [(500001, [Dir.keep])], os := [] })], { fr := [(4, Dir.keep)], bx := [(500001, [Dir.keep])], os := [] }⟩
  | _ => none
noncomputable def fi_slices_IndexFunc_ClaimSpot__impl_ClaimBook_at_c1 : FI := ⟨Tryz.f137.results.toList, bodyOf Tryz.f137.body, Tryz.f137.ntmps, an_slices_IndexFunc_ClaimSpot__impl_ClaimBook_at_c1⟩
theorem ok_slices_IndexFunc_ClaimSpot__impl_ClaimBook_at_c1 : FnOK Tryz.prog 137 fi_slices_IndexFunc_ClaimSpot__impl_ClaimBook_at_c1 := ⟨⟨Tryz.f137, Tryz.func137, by kernel_rfl, rfl, rfl, by kernel_rfl⟩, by kernel_rfl⟩
def phiL_slices_IndexFunc_ClaimSpot__impl_ClaimBook_at_c1 (N : Nat) : List (Nat × Summ) := [(138, sm_impl_ClaimBook_at_c1 N)]
def sg_slices_IndexFunc_ClaimSpot__impl_ClaimBook_at_c1 : Summ := sigOf [.d (.slice tSpot) false, .cl 138 [.str]] true [.d tInt false]
def S_slices_IndexFunc_ClaimSpot__impl_ClaimBook_at_c1_0 (s : List Spot) (t7 : Int) (t8 : Int) (fpc0 : Txt) : St := { fr := [(0, AV.w (V1.one (C.v tSpot.slice s))), (1, AV.w (V1.one (C.fn 138 [500001]))), (7, AV.w (V1.one (C.v tInt t7))), (8, AV.w (V1.one (C.v tInt t8)))], H := [(500001, Ob.box [C.v Ty.str fpc0])] }
noncomputable def E_slices_IndexFunc_ClaimSpot__impl_ClaimBook_at_c1 (N : Nat) : Env := envOf (tabOf tabL) (tabS (phiL_slices_IndexFunc_ClaimSpot__impl_ClaimBook_at_c1 N)) inl0 N fi_slices_IndexFunc_ClaimSpot__impl_ClaimBook_at_c1 [500001]
noncomputable def K_slices_IndexFunc_ClaimSpot__impl_ClaimBook_at_c1 := (kFun (tabOf tabL) fi_slices_IndexFunc_ClaimSpot__impl_ClaimBook_at_c1.res (kT (ofDs [tInt, .str]) sg_slices_IndexFunc_ClaimSpot__impl_ClaimBook_at_c1 [(500001, .bx (.str))]))
noncomputable def its_slices_IndexFunc_ClaimSpot__impl_ClaimBook_at_c1_0 (N : Nat) (n : Nat) : St → Option (Int × Txt) := fun S' => iter [500001] (annAt fi_slices_IndexFunc_ClaimSpot__impl_ClaimBook_at_c1 0) (code (E_slices_IndexFunc_ClaimSpot__impl_ClaimBook_at_c1 N) (lpIn fi_slices_IndexFunc_ClaimSpot__impl_ClaimBook_at_c1.body 0 0) 0) n S' (contOf (E_slices_IndexFunc_ClaimSpot__impl_ClaimBook_at_c1 N) fi_slices_IndexFunc_ClaimSpot__impl_ClaimBook_at_c1.body 0 0 K_slices_IndexFunc_ClaimSpot__impl_ClaimBook_at_c1)
noncomputable def it_slices_IndexFunc_ClaimSpot__impl_ClaimBook_at_c1_0 (N : Nat) (s : List Spot) (t7 : Int) (n : Nat) : Int → Txt → Option (Int × Txt) := fun t8 fpc0 => its_slices_IndexFunc_ClaimSpot__impl_ClaimBook_at_c1_0 N n (S_slices_IndexFunc_ClaimSpot__impl_ClaimBook_at_c1_0 s t7 t8 fpc0)
theorem fe_slices_IndexFunc_ClaimSpot__impl_ClaimBook_at_c1_0 (N : Nat) : it_slices_IndexFunc_ClaimSpot__impl_ClaimBook_at_c1_0 N = slices_IndexFunc_ClaimSpot__impl_ClaimBook_at_c1_0 N := funext fun s => funext fun t7 => funext (lp_all (by kernel_rfl) fun n => by
    show _ = slices_IndexFunc_ClaimSpot__impl_ClaimBook_at_c1_0r N s t7 (it_slices_IndexFunc_ClaimSpot__impl_ClaimBook_at_c1_0 N s t7 n)
    kernel_rfl)
theorem run_slices_IndexFunc_ClaimSpot__impl_ClaimBook_at_c1 (N : Nat) (s : List ((List UInt8) × ((Int) × ((Int) × ((Int) × (List Txt)))))) (p1 : List UInt8) : runST (ofDs [tInt, .str]) (tabOf tabL) (tabS (phiL_slices_IndexFunc_ClaimSpot__impl_ClaimBook_at_c1 N)) inl0 N fi_slices_IndexFunc_ClaimSpot__impl_ClaimBook_at_c1 sg_slices_IndexFunc_ClaimSpot__impl_ClaimBook_at_c1 [⟨.slice tSpot, s⟩, ⟨.str, p1⟩] = F.slices_IndexFunc_ClaimSpot__impl_ClaimBook_at_c1 N s p1 := by
    show _ = F.slices_IndexFunc_ClaimSpot__impl_ClaimBook_at_c1b N (F.slices_IndexFunc_ClaimSpot__impl_ClaimBook_at_c1_0 N) s p1
    rw [← fe_slices_IndexFunc_ClaimSpot__impl_ClaimBook_at_c1_0 N]
    kernel_rfl
def sm_slices_IndexFunc_ClaimSpot__impl_ClaimBook_at_c1 (N : Nat) : Summ := summOf [.d (.slice tSpot) false, .cl 138 [.str]] true [.d tInt false] [tInt, .str] (F.slices_IndexFunc_ClaimSpot__impl_ClaimBook_at_c1 N)
theorem con_slices_IndexFunc_ClaimSpot__impl_ClaimBook_at_c1 (N : Nat) : Contract Tryz.prog 137 (sm_slices_IndexFunc_ClaimSpot__impl_ClaimBook_at_c1 N) := con_of (N := N) tabOK mixed (callOK_list (l := phiL_slices_IndexFunc_ClaimSpot__impl_ClaimBook_at_c1 N) (allc rfl (con_impl_ClaimBook_at_c1 N) trivial)) (inl0_ok _) ok_slices_IndexFunc_ClaimSpot__impl_ClaimBook_at_c1 (by decide) fun s p1 => run_slices_IndexFunc_ClaimSpot__impl_ClaimBook_at_c1 N s p1
def an_impl_ClaimBook_at : Nat → Option Ann := fun _ => none
noncomputable def fi_impl_ClaimBook_at : FI := ⟨Tryz.f60.results.toList, bodyOf Tryz.f60.body, Tryz.f60.ntmps, an_impl_ClaimBook_at⟩
theorem ok_impl_ClaimBook_at : FnOK Tryz.prog 60 fi_impl_ClaimBook_at := ⟨⟨Tryz.f60, Tryz.func60, by kernel_rfl, rfl, rfl, by kernel_rfl⟩, by kernel_rfl⟩
def phiL_impl_ClaimBook_at (N : Nat) : List (Nat × Summ) := [(13900137, sm_slices_IndexFunc_ClaimSpot__impl_ClaimBook_at_c1 N)]
def sg_impl_ClaimBook_at : Summ := sigOf [.d tBook true, .d (.str) false] false [.d tInt false]
theorem run_impl_ClaimBook_at (N : Nat) (b : (List ((List UInt8) × (List UInt8))) × ((List ((List UInt8) × ((Int) × ((Int) × ((Int) × (List Txt)))))) × ((List Txt) × ((List (((Int) × ((Int) × ((List Txt) × ((List ((List UInt8) × ((Int) × (Int)))) × ((List Txt) × (List Txt)))))) × (Bool))) × (Int))))) (n : List UInt8) : runST (ofDs [tInt]) (tabOf tabL) (tabS (phiL_impl_ClaimBook_at N)) inl0 N fi_impl_ClaimBook_at sg_impl_ClaimBook_at [⟨tBook, b⟩, ⟨.str, n⟩] = F.impl_ClaimBook_at N b n := by kernel_rfl
def sm_impl_ClaimBook_at (N : Nat) : Summ := summOf [.d tBook true, .d (.str) false] false [.d tInt false] [tInt] (F.impl_ClaimBook_at N)
theorem con_impl_ClaimBook_at (N : Nat) : Contract Tryz.prog 60 (sm_impl_ClaimBook_at N) := con_of (N := N) tabOK mixed (callOK_list (l := phiL_impl_ClaimBook_at N) (allc rfl (con_slices_IndexFunc_ClaimSpot__impl_ClaimBook_at_c1 N) trivial)) (inl0_ok _) ok_impl_ClaimBook_at (by decide) fun b n => run_impl_ClaimBook_at N b n
def an_impl_within_c1 : Nat → Option Ann := fun _ => none
noncomputable def fi_impl_within_c1 : FI := ⟨Tryz.f169.results.toList, bodyOf Tryz.f169.body, Tryz.f169.ntmps, an_impl_within_c1⟩
theorem ok_impl_within_c1 : FnOK Tryz.prog 169 fi_impl_within_c1 := ⟨⟨Tryz.f169, Tryz.func169, by kernel_rfl, rfl, rfl, by kernel_rfl⟩, by kernel_rfl⟩
def phiL_impl_within_c1 (N : Nat) : List (Nat × Summ) := [(101, sm_slices_Contains_string N)]
def sg_impl_within_c1 : Summ := sigOf [.d (.str) false, .bx tTxts] true [.d (.bool) false]
theorem run_impl_within_c1 (N : Nat) (s : List UInt8) (p1 : List (List UInt8)) : runST (ofDs [.bool, tTxts]) (tabOf tabL) (tabS (phiL_impl_within_c1 N)) inl0 N fi_impl_within_c1 sg_impl_within_c1 [⟨.str, s⟩, ⟨tTxts, p1⟩] = F.impl_within_c1 N s p1 := by kernel_rfl
def sm_impl_within_c1 (N : Nat) : Summ := summOf [.d (.str) false, .bx tTxts] true [.d (.bool) false] [.bool, tTxts] (F.impl_within_c1 N)
theorem con_impl_within_c1 (N : Nat) : Contract Tryz.prog 169 (sm_impl_within_c1 N) := con_of (N := N) tabOK mixed (callOK_list (l := phiL_impl_within_c1 N) (allc rfl (con_slices_Contains_string N) trivial)) (inl0_ok _) ok_impl_within_c1 (by decide) fun s p1 => run_impl_within_c1 N s p1
def an_slices_IndexFunc_string__impl_within_c1 : Nat → Option Ann
  | 0 => some ⟨{ fr := [(0, Dir.keep), (1, Dir.keep), (7, Dir.keep), (8, Dir.keep)], bx := [(500001, [Dir.keep])], os := [] }, [(0, { fr := [], bx := [(500001, [Dir.keep])], os := [] })], { fr := [(4, Dir.keep)], bx := [(500001, [Dir.keep])], os := [] }⟩
  | _ => none
noncomputable def fi_slices_IndexFunc_string__impl_within_c1 : FI := ⟨Tryz.f179.results.toList, bodyOf Tryz.f179.body, Tryz.f179.ntmps, an_slices_IndexFunc_string__impl_within_c1⟩
theorem ok_slices_IndexFunc_string__impl_within_c1 : FnOK Tryz.prog 179 fi_slices_IndexFunc_string__impl_within_c1 := ⟨⟨Tryz.f179, Tryz.func179, by kernel_rfl, rfl, rfl, by kernel_rfl⟩, by kernel_rfl⟩
def phiL_slices_IndexFunc_string__impl_within_c1 (N : Nat) : List (Nat × Summ) := [(169, sm_impl_within_c1 N)]
def sg_slices_IndexFunc_string__impl_within_c1 : Summ := sigOf [.d tTxts false, .cl 169 [tTxts]] true [.d tInt false]
def S_slices_IndexFunc_string__impl_within_c1_0 (s : List Txt) (t7 : Int) (t8 : Int) (fpc0 : List Txt) : St := { fr := [(0, AV.w (V1.one (C.v tTxts s))), (1, AV.w (V1.one (C.fn 169 [500001]))), (7, AV.w (V1.one (C.v tInt t7))), (8, AV.w (V1.one (C.v tInt t8)))], H := [(500001, Ob.box [C.v tTxts fpc0])] }
noncomputable def E_slices_IndexFunc_string__impl_within_c1 (N : Nat) : Env := envOf (tabOf tabL) (tabS (phiL_slices_IndexFunc_string__impl_within_c1 N)) inl0 N fi_slices_IndexFunc_string__impl_within_c1 [500001]
noncomputable def K_slices_IndexFunc_string__impl_within_c1 := (kFun (tabOf tabL) fi_slices_IndexFunc_string__impl_within_c1.res (kT (ofDs [tInt, tTxts]) sg_slices_IndexFunc_string__impl_within_c1 [(500001, .bx tTxts)]))
noncomputable def its_slices_IndexFunc_string__impl_within_c1_0 (N : Nat) (n : Nat) : St → Option (Int × List Txt) := fun S' => iter [500001] (annAt fi_slices_IndexFunc_string__impl_within_c1 0) (code (E_slices_IndexFunc_string__impl_within_c1 N) (lpIn fi_slices_IndexFunc_string__impl_within_c1.body 0 0) 0) n S' (contOf (E_slices_IndexFunc_string__impl_within_c1 N) fi_slices_IndexFunc_string__impl_within_c1.body 0 0 K_slices_IndexFunc_string__impl_within_c1)
noncomputable def it_slices_IndexFunc_string__impl_within_c1_0 (N : Nat) (s : List Txt) (t7 : Int) (n : Nat) : Int → (List Txt) → Option (Int × List Txt) := fun t8 fpc0 => its_slices_IndexFunc_string__impl_within_c1_0 N n (S_slices_IndexFunc_string__impl_within_c1_0 s t7 t8 fpc0)
theorem fe_slices_IndexFunc_string__impl_within_c1_0 (N : Nat) : it_slices_IndexFunc_string__impl_within_c1_0 N = slices_IndexFunc_string__impl_within_c1_0 N := funext fun s => funext fun t7 => funext (lp_all (by kernel_rfl) fun n => by
    show _ = slices_IndexFunc_string__impl_within_c1_0r N s t7 (it_slices_IndexFunc_string__impl_within_c1_0 N s t7 n)
    kernel_rfl)
theorem run_slices_IndexFunc_string__impl_within_c1 (N : Nat) (s : List (List UInt8)) (p1 : List (List UInt8)) : runST (ofDs [tInt, tTxts]) (tabOf tabL) (tabS (phiL_slices_IndexFunc_string__impl_within_c1 N)) inl0 N fi_slices_IndexFunc_string__impl_within_c1 sg_slices_IndexFunc_string__impl_within_c1 [⟨tTxts, s⟩, ⟨tTxts, p1⟩] = F.slices_IndexFunc_string__impl_within_c1 N s p1 := by
    show _ = F.slices_IndexFunc_string__impl_within_c1b N (F.slices_IndexFunc_string__impl_within_c1_0 N) s p1
    rw [← fe_slices_IndexFunc_string__impl_within_c1_0 N]
    kernel_rfl
def sm_slices_IndexFunc_string__impl_within_c1 (N : Nat) : Summ := summOf [.d tTxts false, .cl 169 [tTxts]] true [.d tInt false] [tInt, tTxts] (F.slices_IndexFunc_string__impl_within_c1 N)
theorem con_slices_IndexFunc_string__impl_within_c1 (N : Nat) : Contract Tryz.prog 179 (sm_slices_IndexFunc_string__impl_within_c1 N) := con_of (N := N) tabOK mixed (callOK_list (l := phiL_slices_IndexFunc_string__impl_within_c1 N) (allc rfl (con_impl_within_c1 N) trivial)) (inl0_ok _) ok_slices_IndexFunc_string__impl_within_c1 (by decide) fun s p1 => run_slices_IndexFunc_string__impl_within_c1 N s p1
def an_slices_ContainsFunc_string__impl_within_c1 : Nat → Option Ann := fun _ => none
noncomputable def fi_slices_ContainsFunc_string__impl_within_c1 : FI := ⟨Tryz.f168.results.toList, bodyOf Tryz.f168.body, Tryz.f168.ntmps, an_slices_ContainsFunc_string__impl_within_c1⟩
theorem ok_slices_ContainsFunc_string__impl_within_c1 : FnOK Tryz.prog 168 fi_slices_ContainsFunc_string__impl_within_c1 := ⟨⟨Tryz.f168, Tryz.func168, by kernel_rfl, rfl, rfl, by kernel_rfl⟩, by kernel_rfl⟩
def phiL_slices_ContainsFunc_string__impl_within_c1 (N : Nat) : List (Nat × Summ) := [(17000179, sm_slices_IndexFunc_string__impl_within_c1 N)]
def sg_slices_ContainsFunc_string__impl_within_c1 : Summ := sigOf [.d tTxts false, .cl 169 [tTxts]] true [.d (.bool) false]
theorem run_slices_ContainsFunc_string__impl_within_c1 (N : Nat) (s : List (List UInt8)) (p1 : List (List UInt8)) : runST (ofDs [.bool, tTxts]) (tabOf tabL) (tabS (phiL_slices_ContainsFunc_string__impl_within_c1 N)) inl0 N fi_slices_ContainsFunc_string__impl_within_c1 sg_slices_ContainsFunc_string__impl_within_c1 [⟨tTxts, s⟩, ⟨tTxts, p1⟩] = F.slices_ContainsFunc_string__impl_within_c1 N s p1 := by kernel_rfl
def sm_slices_ContainsFunc_string__impl_within_c1 (N : Nat) : Summ := summOf [.d tTxts false, .cl 169 [tTxts]] true [.d (.bool) false] [.bool, tTxts] (F.slices_ContainsFunc_string__impl_within_c1 N)
theorem con_slices_ContainsFunc_string__impl_within_c1 (N : Nat) : Contract Tryz.prog 168 (sm_slices_ContainsFunc_string__impl_within_c1 N) := con_of (N := N) tabOK mixed (callOK_list (l := phiL_slices_ContainsFunc_string__impl_within_c1 N) (allc rfl (con_slices_IndexFunc_string__impl_within_c1 N) trivial)) (inl0_ok _) ok_slices_ContainsFunc_string__impl_within_c1 (by decide) fun s p1 => run_slices_ContainsFunc_string__impl_within_c1 N s p1
def an_impl_within : Nat → Option Ann := fun _ => none
noncomputable def fi_impl_within : FI := ⟨Tryz.f118.results.toList, bodyOf Tryz.f118.body, Tryz.f118.ntmps, an_impl_within⟩
theorem ok_impl_within : FnOK Tryz.prog 118 fi_impl_within := ⟨⟨Tryz.f118, Tryz.func118, by kernel_rfl, rfl, rfl, by kernel_rfl⟩, by kernel_rfl⟩
def phiL_impl_within (N : Nat) : List (Nat × Summ) := [(17000168, sm_slices_ContainsFunc_string__impl_within_c1 N)]
def sg_impl_within : Summ := sigOf [.d tTxts false, .d tTxts false] false [.d (.bool) false]
theorem run_impl_within (N : Nat) (a : List (List UInt8)) (b : List (List UInt8)) : runST (ofDs [.bool]) (tabOf tabL) (tabS (phiL_impl_within N)) inl0 N fi_impl_within sg_impl_within [⟨tTxts, a⟩, ⟨tTxts, b⟩] = F.impl_within N a b := by kernel_rfl
def sm_impl_within (N : Nat) : Summ := summOf [.d tTxts false, .d tTxts false] false [.d (.bool) false] [.bool] (F.impl_within N)
theorem con_impl_within (N : Nat) : Contract Tryz.prog 118 (sm_impl_within N) := con_of (N := N) tabOK mixed (callOK_list (l := phiL_impl_within N) (allc rfl (con_slices_ContainsFunc_string__impl_within_c1 N) trivial)) (inl0_ok _) ok_impl_within (by decide) fun a b => run_impl_within N a b
def an_impl_ClaimBook_knows : Nat → Option Ann
  | 0 => some ⟨{ fr := [(2, Dir.keep), (3, Dir.keep), (8, Dir.keep), (9, Dir.keep), (10, Dir.keep)], bx := [(2, [Dir.keep, Dir.keep, Dir.keep, Dir.keep, Dir.keep]), (3, [Dir.keep, Dir.keep, Dir.keep, Dir.keep, Dir.keep, Dir.keep])], os := [] }, [(0, { fr := [(2, Dir.keep), (3, Dir.keep)], bx := [(2, [Dir.keep, Dir.keep, Dir.keep, Dir.keep, Dir.keep]), (3, [Dir.keep, Dir.keep, Dir.keep, Dir.keep, Dir.keep, Dir.keep])], os := [] })], { fr := [(4, Dir.keep)], bx := [], os := [] }⟩
  | _ => none
noncomputable def fi_impl_ClaimBook_knows : FI := ⟨Tryz.f113.results.toList, bodyOf Tryz.f113.body, Tryz.f113.ntmps, an_impl_ClaimBook_knows⟩
theorem ok_impl_ClaimBook_knows : FnOK Tryz.prog 113 fi_impl_ClaimBook_knows := ⟨⟨Tryz.f113, Tryz.func113, by kernel_rfl, rfl, rfl, by kernel_rfl⟩, by kernel_rfl⟩
def phiL_impl_ClaimBook_knows (N : Nat) : List (Nat × Summ) := [(60, sm_impl_ClaimBook_at N), (118, sm_impl_within N)]
def sg_impl_ClaimBook_knows : Summ := sigOf [.d tBook true, .d tWant true] false [.d (.bool) false]
def S_impl_ClaimBook_knows_0 (b : Book) (w : Want) (t9 : Int) (t10 : Int) : St := { fr := [(2, AV.w (V1.one (C.pb 2 0))), (3, AV.w (V1.one (C.pb 3 0))), (8, AV.w (V1.one (C.v tUse.slice w.2.2.2.1))), (9, AV.w (V1.one (C.v tInt t9))), (10, AV.w (V1.one (C.v tInt t10)))], H := [(2, Ob.box [C.v tFoe.slice b.1, C.v tSpot.slice b.2.1, C.v tTxts b.2.2.1, C.v tPart.slice b.2.2.2.1, C.v tInt b.2.2.2.2]), (3, Ob.box [C.v tInt w.1, C.v tInt w.2.1, C.v tTxts w.2.2.1, C.v tUse.slice w.2.2.2.1, C.v tTxts w.2.2.2.2.1, C.v tTxts w.2.2.2.2.2])] }
noncomputable def E_impl_ClaimBook_knows (N : Nat) : Env := envOf (tabOf tabL) (tabS (phiL_impl_ClaimBook_knows N)) inl0 N fi_impl_ClaimBook_knows []
noncomputable def K_impl_ClaimBook_knows := (kFun (tabOf tabL) fi_impl_ClaimBook_knows.res (kT (ofDs [.bool]) sg_impl_ClaimBook_knows []))
noncomputable def its_impl_ClaimBook_knows_0 (N : Nat) (n : Nat) : St → Option Bool := fun S' => iter [] (annAt fi_impl_ClaimBook_knows 0) (code (E_impl_ClaimBook_knows N) (lpIn fi_impl_ClaimBook_knows.body 0 0) 0) n S' (contOf (E_impl_ClaimBook_knows N) fi_impl_ClaimBook_knows.body 0 0 K_impl_ClaimBook_knows)
noncomputable def it_impl_ClaimBook_knows_0 (N : Nat) (b : Book) (w : Want) (t9 : Int) (n : Nat) : Int → Option Bool := fun t10 => its_impl_ClaimBook_knows_0 N n (S_impl_ClaimBook_knows_0 b w t9 t10)
theorem fe_impl_ClaimBook_knows_0 (N : Nat) : it_impl_ClaimBook_knows_0 N = impl_ClaimBook_knows_0 N := funext fun b => funext fun w => funext fun t9 => funext (lp_all (by kernel_rfl) fun n => by
    show _ = impl_ClaimBook_knows_0r N b w t9 (it_impl_ClaimBook_knows_0 N b w t9 n)
    kernel_rfl)
theorem run_impl_ClaimBook_knows (N : Nat) (b : (List ((List UInt8) × (List UInt8))) × ((List ((List UInt8) × ((Int) × ((Int) × ((Int) × (List Txt)))))) × ((List Txt) × ((List (((Int) × ((Int) × ((List Txt) × ((List ((List UInt8) × ((Int) × (Int)))) × ((List Txt) × (List Txt)))))) × (Bool))) × (Int))))) (w : (Int) × ((Int) × ((List Txt) × ((List ((List UInt8) × ((Int) × (Int)))) × ((List Txt) × (List Txt)))))) : runST (ofDs [.bool]) (tabOf tabL) (tabS (phiL_impl_ClaimBook_knows N)) inl0 N fi_impl_ClaimBook_knows sg_impl_ClaimBook_knows [⟨tBook, b⟩, ⟨tWant, w⟩] = F.impl_ClaimBook_knows N b w := by
    show _ = F.impl_ClaimBook_knowsb N (F.impl_ClaimBook_knows_0 N) b w
    rw [← fe_impl_ClaimBook_knows_0 N]
    kernel_rfl
def sm_impl_ClaimBook_knows (N : Nat) : Summ := summOf [.d tBook true, .d tWant true] false [.d (.bool) false] [.bool] (F.impl_ClaimBook_knows N)
theorem con_impl_ClaimBook_knows (N : Nat) : Contract Tryz.prog 113 (sm_impl_ClaimBook_knows N) := con_of (N := N) tabOK mixed (callOK_list (l := phiL_impl_ClaimBook_knows N) (allc rfl (con_impl_ClaimBook_at N) (allc rfl (con_impl_within N) trivial))) (inl0_ok _) ok_impl_ClaimBook_knows (by decide) fun b w => run_impl_ClaimBook_knows N b w
def an_impl_ClaimBook_partOk : Nat → Option Ann
  | 0 => some ⟨{ fr := [(2, Dir.keep), (5, Dir.keep), (28, Dir.keep), (29, Dir.keep), (30, Dir.keep)], bx := [(2, [Dir.keep, Dir.keep, Dir.keep, Dir.keep, Dir.keep]), (5, [Dir.keep, Dir.keep, Dir.keep, Dir.keep, Dir.keep, Dir.keep])], os := [] }, [(0, { fr := [], bx := [], os := [] })], { fr := [(4, Dir.keep)], bx := [], os := [] }⟩
  | _ => none
noncomputable def fi_impl_ClaimBook_partOk : FI := ⟨Tryz.f75.results.toList, bodyOf Tryz.f75.body, Tryz.f75.ntmps, an_impl_ClaimBook_partOk⟩
theorem ok_impl_ClaimBook_partOk : FnOK Tryz.prog 75 fi_impl_ClaimBook_partOk := ⟨⟨Tryz.f75, Tryz.func75, by kernel_rfl, rfl, rfl, by kernel_rfl⟩, by kernel_rfl⟩
def phiL_impl_ClaimBook_partOk (N : Nat) : List (Nat × Summ) := [(46, sm_impl_ClaimWantOk N), (113, sm_impl_ClaimBook_knows N), (60, sm_impl_ClaimBook_at N), (118, sm_impl_within N)]
def sg_impl_ClaimBook_partOk : Summ := sigOf [.d tBook true, .d tPart true] false [.d (.bool) false]
def S_impl_ClaimBook_partOk_0 (b : Book) (p : Part) (t29 : Int) (t30 : Int) : St := { fr := [(2, AV.w (V1.one (C.pb 2 0))), (5, AV.w (V1.one (C.pb 5 0))), (28, AV.w (V1.one (C.v tUse.slice p.1.2.2.2.1))), (29, AV.w (V1.one (C.v tInt t29))), (30, AV.w (V1.one (C.v tInt t30)))], H := [(2, Ob.box [C.v tFoe.slice b.1, C.v tSpot.slice b.2.1, C.v tTxts b.2.2.1, C.v tPart.slice b.2.2.2.1, C.v tInt b.2.2.2.2]), (5, Ob.box [C.v tInt p.1.1, C.v tInt p.1.2.1, C.v tTxts p.1.2.2.1, C.v tUse.slice p.1.2.2.2.1, C.v tTxts p.1.2.2.2.2.1, C.v tTxts p.1.2.2.2.2.2])] }
noncomputable def E_impl_ClaimBook_partOk (N : Nat) : Env := envOf (tabOf tabL) (tabS (phiL_impl_ClaimBook_partOk N)) inl0 N fi_impl_ClaimBook_partOk []
noncomputable def K_impl_ClaimBook_partOk := (kFun (tabOf tabL) fi_impl_ClaimBook_partOk.res (kT (ofDs [.bool]) sg_impl_ClaimBook_partOk []))
noncomputable def its_impl_ClaimBook_partOk_0 (N : Nat) (n : Nat) : St → Option Bool := fun S' => iter [] (annAt fi_impl_ClaimBook_partOk 0) (code (E_impl_ClaimBook_partOk N) (lpIn fi_impl_ClaimBook_partOk.body 0 0) 0) n S' (contOf (E_impl_ClaimBook_partOk N) fi_impl_ClaimBook_partOk.body 0 0 K_impl_ClaimBook_partOk)
noncomputable def it_impl_ClaimBook_partOk_0 (N : Nat) (b : Book) (p : Part) (t29 : Int) (n : Nat) : Int → Option Bool := fun t30 => its_impl_ClaimBook_partOk_0 N n (S_impl_ClaimBook_partOk_0 b p t29 t30)
theorem fe_impl_ClaimBook_partOk_0 (N : Nat) : it_impl_ClaimBook_partOk_0 N = impl_ClaimBook_partOk_0 N := funext fun b => funext fun p => funext fun t29 => funext (lp_all (by kernel_rfl) fun n => by
    show _ = impl_ClaimBook_partOk_0r N b p t29 (it_impl_ClaimBook_partOk_0 N b p t29 n)
    kernel_rfl)
theorem run_impl_ClaimBook_partOk (N : Nat) (b : (List ((List UInt8) × (List UInt8))) × ((List ((List UInt8) × ((Int) × ((Int) × ((Int) × (List Txt)))))) × ((List Txt) × ((List (((Int) × ((Int) × ((List Txt) × ((List ((List UInt8) × ((Int) × (Int)))) × ((List Txt) × (List Txt)))))) × (Bool))) × (Int))))) (p : ((Int) × ((Int) × ((List Txt) × ((List ((List UInt8) × ((Int) × (Int)))) × ((List Txt) × (List Txt)))))) × (Bool)) : runST (ofDs [.bool]) (tabOf tabL) (tabS (phiL_impl_ClaimBook_partOk N)) inl0 N fi_impl_ClaimBook_partOk sg_impl_ClaimBook_partOk [⟨tBook, b⟩, ⟨tPart, p⟩] = F.impl_ClaimBook_partOk N b p := by
    show _ = F.impl_ClaimBook_partOkb N (F.impl_ClaimBook_partOk_0 N) b p
    rw [← fe_impl_ClaimBook_partOk_0 N]
    kernel_rfl
def sm_impl_ClaimBook_partOk (N : Nat) : Summ := summOf [.d tBook true, .d tPart true] false [.d (.bool) false] [.bool] (F.impl_ClaimBook_partOk N)
theorem con_impl_ClaimBook_partOk (N : Nat) : Contract Tryz.prog 75 (sm_impl_ClaimBook_partOk N) := con_of (N := N) tabOK mixed (callOK_list (l := phiL_impl_ClaimBook_partOk N) (allc rfl (con_impl_ClaimWantOk N) (allc rfl (con_impl_ClaimBook_knows N) (allc rfl (con_impl_ClaimBook_at N) (allc rfl (con_impl_within N) trivial))))) (inl0_ok _) ok_impl_ClaimBook_partOk (by decide) fun b p => run_impl_ClaimBook_partOk N b p
def an_impl_share_c1_c1 : Nat → Option Ann := fun _ => none
noncomputable def fi_impl_share_c1_c1 : FI := ⟨Tryz.f145.results.toList, bodyOf Tryz.f145.body, Tryz.f145.ntmps, an_impl_share_c1_c1⟩
theorem ok_impl_share_c1_c1 : FnOK Tryz.prog 145 fi_impl_share_c1_c1 := ⟨⟨Tryz.f145, Tryz.func145, by kernel_rfl, rfl, rfl, by kernel_rfl⟩, by kernel_rfl⟩
def phiL_impl_share_c1_c1 (N : Nat) : List (Nat × Summ) := []
def sg_impl_share_c1_c1 : Summ := sigOf [.d tUse true, .bx tUse] true [.d (.bool) false]
theorem run_impl_share_c1_c1 (N : Nat) (v : (List UInt8) × ((Int) × (Int))) (p1 : (List UInt8) × ((Int) × (Int))) : runST (ofDs [.bool, tUse]) (tabOf tabL) (tabS (phiL_impl_share_c1_c1 N)) inl0 N fi_impl_share_c1_c1 sg_impl_share_c1_c1 [⟨tUse, v⟩, ⟨tUse, p1⟩] = F.impl_share_c1_c1 N v p1 := by kernel_rfl
def sm_impl_share_c1_c1 (N : Nat) : Summ := summOf [.d tUse true, .bx tUse] true [.d (.bool) false] [.bool, tUse] (F.impl_share_c1_c1 N)
theorem con_impl_share_c1_c1 (N : Nat) : Contract Tryz.prog 145 (sm_impl_share_c1_c1 N) := con_of (N := N) tabOK mixed (callOK_list (l := phiL_impl_share_c1_c1 N) trivial) (inl0_ok _) ok_impl_share_c1_c1 (by decide) fun v p1 => run_impl_share_c1_c1 N v p1
def an_slices_IndexFunc_ClaimUse__impl_share_c1_c1 : Nat → Option Ann
  | 0 => some ⟨{ fr := [(0, Dir.keep), (1, Dir.keep), (7, Dir.keep), (8, Dir.keep)], bx := [(500001, [Dir.keep, Dir.keep, Dir.keep])], os := [] }, [(0, { fr := [], bx := [(500001, [Dir.keep, Dir.keep, Dir.keep])], os := [] })], { fr := [(4, Dir.keep)], bx := [(500001, [Dir.keep, Dir.keep, Dir.keep])], os := [] }⟩
  | _ => none
noncomputable def fi_slices_IndexFunc_ClaimUse__impl_share_c1_c1 : FI := ⟨Tryz.f178.results.toList, bodyOf Tryz.f178.body, Tryz.f178.ntmps, an_slices_IndexFunc_ClaimUse__impl_share_c1_c1⟩
theorem ok_slices_IndexFunc_ClaimUse__impl_share_c1_c1 : FnOK Tryz.prog 178 fi_slices_IndexFunc_ClaimUse__impl_share_c1_c1 := ⟨⟨Tryz.f178, Tryz.func178, by kernel_rfl, rfl, rfl, by kernel_rfl⟩, by kernel_rfl⟩
def phiL_slices_IndexFunc_ClaimUse__impl_share_c1_c1 (N : Nat) : List (Nat × Summ) := [(145, sm_impl_share_c1_c1 N)]
def sg_slices_IndexFunc_ClaimUse__impl_share_c1_c1 : Summ := sigOf [.d (.slice tUse) false, .cl 145 [tUse]] true [.d tInt false]
def S_slices_IndexFunc_ClaimUse__impl_share_c1_c1_0 (s : List Use) (t7 : Int) (t8 : Int) (fpc0 : Txt) (fpc1 : Int) (fpc2 : Int) : St := { fr := [(0, AV.w (V1.one (C.v tUse.slice s))), (1, AV.w (V1.one (C.fn 145 [500001]))), (7, AV.w (V1.one (C.v tInt t7))), (8, AV.w (V1.one (C.v tInt t8)))], H := [(500001, Ob.box [C.v Ty.str fpc0, C.v tInt fpc1, C.v tInt fpc2])] }
noncomputable def E_slices_IndexFunc_ClaimUse__impl_share_c1_c1 (N : Nat) : Env := envOf (tabOf tabL) (tabS (phiL_slices_IndexFunc_ClaimUse__impl_share_c1_c1 N)) inl0 N fi_slices_IndexFunc_ClaimUse__impl_share_c1_c1 [500001]
noncomputable def K_slices_IndexFunc_ClaimUse__impl_share_c1_c1 := (kFun (tabOf tabL) fi_slices_IndexFunc_ClaimUse__impl_share_c1_c1.res (kT (ofDs [tInt, tUse]) sg_slices_IndexFunc_ClaimUse__impl_share_c1_c1 [(500001, .bx tUse)]))
noncomputable def its_slices_IndexFunc_ClaimUse__impl_share_c1_c1_0 (N : Nat) (n : Nat) : St → Option (Int × Use) := fun S' => iter [500001] (annAt fi_slices_IndexFunc_ClaimUse__impl_share_c1_c1 0) (code (E_slices_IndexFunc_ClaimUse__impl_share_c1_c1 N) (lpIn fi_slices_IndexFunc_ClaimUse__impl_share_c1_c1.body 0 0) 0) n S' (contOf (E_slices_IndexFunc_ClaimUse__impl_share_c1_c1 N) fi_slices_IndexFunc_ClaimUse__impl_share_c1_c1.body 0 0 K_slices_IndexFunc_ClaimUse__impl_share_c1_c1)
noncomputable def it_slices_IndexFunc_ClaimUse__impl_share_c1_c1_0 (N : Nat) (s : List Use) (t7 : Int) (n : Nat) : Int → Txt → Int → Int → Option (Int × Use) := fun t8 fpc0 fpc1 fpc2 => its_slices_IndexFunc_ClaimUse__impl_share_c1_c1_0 N n (S_slices_IndexFunc_ClaimUse__impl_share_c1_c1_0 s t7 t8 fpc0 fpc1 fpc2)
theorem fe_slices_IndexFunc_ClaimUse__impl_share_c1_c1_0 (N : Nat) : it_slices_IndexFunc_ClaimUse__impl_share_c1_c1_0 N = slices_IndexFunc_ClaimUse__impl_share_c1_c1_0 N := funext fun s => funext fun t7 => funext (lp_all (by kernel_rfl) fun n => by
    show _ = slices_IndexFunc_ClaimUse__impl_share_c1_c1_0r N s t7 (it_slices_IndexFunc_ClaimUse__impl_share_c1_c1_0 N s t7 n)
    kernel_rfl)
theorem run_slices_IndexFunc_ClaimUse__impl_share_c1_c1 (N : Nat) (s : List ((List UInt8) × ((Int) × (Int)))) (p1 : (List UInt8) × ((Int) × (Int))) : runST (ofDs [tInt, tUse]) (tabOf tabL) (tabS (phiL_slices_IndexFunc_ClaimUse__impl_share_c1_c1 N)) inl0 N fi_slices_IndexFunc_ClaimUse__impl_share_c1_c1 sg_slices_IndexFunc_ClaimUse__impl_share_c1_c1 [⟨.slice tUse, s⟩, ⟨tUse, p1⟩] = F.slices_IndexFunc_ClaimUse__impl_share_c1_c1 N s p1 := by
    show _ = F.slices_IndexFunc_ClaimUse__impl_share_c1_c1b N (F.slices_IndexFunc_ClaimUse__impl_share_c1_c1_0 N) s p1
    rw [← fe_slices_IndexFunc_ClaimUse__impl_share_c1_c1_0 N]
    kernel_rfl
def sm_slices_IndexFunc_ClaimUse__impl_share_c1_c1 (N : Nat) : Summ := summOf [.d (.slice tUse) false, .cl 145 [tUse]] true [.d tInt false] [tInt, tUse] (F.slices_IndexFunc_ClaimUse__impl_share_c1_c1 N)
theorem con_slices_IndexFunc_ClaimUse__impl_share_c1_c1 (N : Nat) : Contract Tryz.prog 178 (sm_slices_IndexFunc_ClaimUse__impl_share_c1_c1 N) := con_of (N := N) tabOK mixed (callOK_list (l := phiL_slices_IndexFunc_ClaimUse__impl_share_c1_c1 N) (allc rfl (con_impl_share_c1_c1 N) trivial)) (inl0_ok _) ok_slices_IndexFunc_ClaimUse__impl_share_c1_c1 (by decide) fun s p1 => run_slices_IndexFunc_ClaimUse__impl_share_c1_c1 N s p1
def an_slices_ContainsFunc_ClaimUse__impl_share_c1_c1 : Nat → Option Ann := fun _ => none
noncomputable def fi_slices_ContainsFunc_ClaimUse__impl_share_c1_c1 : FI := ⟨Tryz.f143.results.toList, bodyOf Tryz.f143.body, Tryz.f143.ntmps, an_slices_ContainsFunc_ClaimUse__impl_share_c1_c1⟩
theorem ok_slices_ContainsFunc_ClaimUse__impl_share_c1_c1 : FnOK Tryz.prog 143 fi_slices_ContainsFunc_ClaimUse__impl_share_c1_c1 := ⟨⟨Tryz.f143, Tryz.func143, by kernel_rfl, rfl, rfl, by kernel_rfl⟩, by kernel_rfl⟩
def phiL_slices_ContainsFunc_ClaimUse__impl_share_c1_c1 (N : Nat) : List (Nat × Summ) := [(14600178, sm_slices_IndexFunc_ClaimUse__impl_share_c1_c1 N)]
def sg_slices_ContainsFunc_ClaimUse__impl_share_c1_c1 : Summ := sigOf [.d (.slice tUse) false, .cl 145 [tUse]] true [.d (.bool) false]
theorem run_slices_ContainsFunc_ClaimUse__impl_share_c1_c1 (N : Nat) (s : List ((List UInt8) × ((Int) × (Int)))) (p1 : (List UInt8) × ((Int) × (Int))) : runST (ofDs [.bool, tUse]) (tabOf tabL) (tabS (phiL_slices_ContainsFunc_ClaimUse__impl_share_c1_c1 N)) inl0 N fi_slices_ContainsFunc_ClaimUse__impl_share_c1_c1 sg_slices_ContainsFunc_ClaimUse__impl_share_c1_c1 [⟨.slice tUse, s⟩, ⟨tUse, p1⟩] = F.slices_ContainsFunc_ClaimUse__impl_share_c1_c1 N s p1 := by kernel_rfl
def sm_slices_ContainsFunc_ClaimUse__impl_share_c1_c1 (N : Nat) : Summ := summOf [.d (.slice tUse) false, .cl 145 [tUse]] true [.d (.bool) false] [.bool, tUse] (F.slices_ContainsFunc_ClaimUse__impl_share_c1_c1 N)
theorem con_slices_ContainsFunc_ClaimUse__impl_share_c1_c1 (N : Nat) : Contract Tryz.prog 143 (sm_slices_ContainsFunc_ClaimUse__impl_share_c1_c1 N) := con_of (N := N) tabOK mixed (callOK_list (l := phiL_slices_ContainsFunc_ClaimUse__impl_share_c1_c1 N) (allc rfl (con_slices_IndexFunc_ClaimUse__impl_share_c1_c1 N) trivial)) (inl0_ok _) ok_slices_ContainsFunc_ClaimUse__impl_share_c1_c1 (by decide) fun s p1 => run_slices_ContainsFunc_ClaimUse__impl_share_c1_c1 N s p1
def an_impl_share_c1 : Nat → Option Ann := fun _ => none
noncomputable def fi_impl_share_c1 : FI := ⟨Tryz.f144.results.toList, bodyOf Tryz.f144.body, Tryz.f144.ntmps, an_impl_share_c1⟩
theorem ok_impl_share_c1 : FnOK Tryz.prog 144 fi_impl_share_c1 := ⟨⟨Tryz.f144, Tryz.func144, by kernel_rfl, rfl, rfl, by kernel_rfl⟩, by kernel_rfl⟩
def phiL_impl_share_c1 (N : Nat) : List (Nat × Summ) := [(14600143, sm_slices_ContainsFunc_ClaimUse__impl_share_c1_c1 N)]
def sg_impl_share_c1 : Summ := sigOf [.d tUse true, .bx tWant] true [.d (.bool) false]
theorem run_impl_share_c1 (N : Nat) (u : (List UInt8) × ((Int) × (Int))) (p1 : (Int) × ((Int) × ((List Txt) × ((List ((List UInt8) × ((Int) × (Int)))) × ((List Txt) × (List Txt)))))) : runST (ofDs [.bool, tWant]) (tabOf tabL) (tabS (phiL_impl_share_c1 N)) inl0 N fi_impl_share_c1 sg_impl_share_c1 [⟨tUse, u⟩, ⟨tWant, p1⟩] = F.impl_share_c1 N u p1 := by kernel_rfl
def sm_impl_share_c1 (N : Nat) : Summ := summOf [.d tUse true, .bx tWant] true [.d (.bool) false] [.bool, tWant] (F.impl_share_c1 N)
theorem con_impl_share_c1 (N : Nat) : Contract Tryz.prog 144 (sm_impl_share_c1 N) := con_of (N := N) tabOK mixed (callOK_list (l := phiL_impl_share_c1 N) (allc rfl (con_slices_ContainsFunc_ClaimUse__impl_share_c1_c1 N) trivial)) (inl0_ok _) ok_impl_share_c1 (by decide) fun u p1 => run_impl_share_c1 N u p1
def an_slices_IndexFunc_ClaimUse__impl_share_c1 : Nat → Option Ann
  | 0 => some ⟨{ fr := [(0, Dir.keep), (1, Dir.keep), (7, Dir.keep), (8, Dir.keep)], bx := [(500001, [Dir.keep, Dir.keep, Dir.keep, Dir.keep, Dir.keep, Dir.keep])], os := [] }, [(0, { fr := [], bx := [(500001, [Dir.keep, Dir.keep, Dir.keep, Dir.keep, Dir.keep, Dir.keep])], os := [] })], { fr := [(4, Dir.keep)], bx := [(500001, [Dir.keep, Dir.keep, Dir.keep, Dir.keep, Dir.keep, Dir.keep])], os := [] }⟩
  | _ => none
noncomputable def fi_slices_IndexFunc_ClaimUse__impl_share_c1 : FI := ⟨Tryz.f178.results.toList, bodyOf Tryz.f178.body, Tryz.f178.ntmps, an_slices_IndexFunc_ClaimUse__impl_share_c1⟩
theorem ok_slices_IndexFunc_ClaimUse__impl_share_c1 : FnOK Tryz.prog 178 fi_slices_IndexFunc_ClaimUse__impl_share_c1 := ⟨⟨Tryz.f178, Tryz.func178, by kernel_rfl, rfl, rfl, by kernel_rfl⟩, by kernel_rfl⟩
def phiL_slices_IndexFunc_ClaimUse__impl_share_c1 (N : Nat) : List (Nat × Summ) := [(144, sm_impl_share_c1 N)]
def sg_slices_IndexFunc_ClaimUse__impl_share_c1 : Summ := sigOf [.d (.slice tUse) false, .cl 144 [tWant]] true [.d tInt false]
def S_slices_IndexFunc_ClaimUse__impl_share_c1_0 (s : List Use) (t7 : Int) (t8 : Int) (fpc0 : Int) (fpc1 : Int) (fpc2 : List Txt) (fpc3 : List Use) (fpc4 : List Txt) (fpc5 : List Txt) : St := { fr := [(0, AV.w (V1.one (C.v tUse.slice s))), (1, AV.w (V1.one (C.fn 144 [500001]))), (7, AV.w (V1.one (C.v tInt t7))), (8, AV.w (V1.one (C.v tInt t8)))], H := [(500001, Ob.box [C.v tInt fpc0, C.v tInt fpc1, C.v tTxts fpc2, C.v tUse.slice fpc3, C.v tTxts fpc4, C.v tTxts fpc5])] }
noncomputable def E_slices_IndexFunc_ClaimUse__impl_share_c1 (N : Nat) : Env := envOf (tabOf tabL) (tabS (phiL_slices_IndexFunc_ClaimUse__impl_share_c1 N)) inl0 N fi_slices_IndexFunc_ClaimUse__impl_share_c1 [500001]
noncomputable def K_slices_IndexFunc_ClaimUse__impl_share_c1 := (kFun (tabOf tabL) fi_slices_IndexFunc_ClaimUse__impl_share_c1.res (kT (ofDs [tInt, tWant]) sg_slices_IndexFunc_ClaimUse__impl_share_c1 [(500001, .bx tWant)]))
noncomputable def its_slices_IndexFunc_ClaimUse__impl_share_c1_0 (N : Nat) (n : Nat) : St → Option (Int × Want) := fun S' => iter [500001] (annAt fi_slices_IndexFunc_ClaimUse__impl_share_c1 0) (code (E_slices_IndexFunc_ClaimUse__impl_share_c1 N) (lpIn fi_slices_IndexFunc_ClaimUse__impl_share_c1.body 0 0) 0) n S' (contOf (E_slices_IndexFunc_ClaimUse__impl_share_c1 N) fi_slices_IndexFunc_ClaimUse__impl_share_c1.body 0 0 K_slices_IndexFunc_ClaimUse__impl_share_c1)
noncomputable def it_slices_IndexFunc_ClaimUse__impl_share_c1_0 (N : Nat) (s : List Use) (t7 : Int) (n : Nat) : Int → Int → Int → (List Txt) → (List Use) → (List Txt) → (List Txt) → Option (Int × Want) := fun t8 fpc0 fpc1 fpc2 fpc3 fpc4 fpc5 => its_slices_IndexFunc_ClaimUse__impl_share_c1_0 N n (S_slices_IndexFunc_ClaimUse__impl_share_c1_0 s t7 t8 fpc0 fpc1 fpc2 fpc3 fpc4 fpc5)
theorem fe_slices_IndexFunc_ClaimUse__impl_share_c1_0 (N : Nat) : it_slices_IndexFunc_ClaimUse__impl_share_c1_0 N = slices_IndexFunc_ClaimUse__impl_share_c1_0 N := funext fun s => funext fun t7 => funext (lp_all (by kernel_rfl) fun n => by
    show _ = slices_IndexFunc_ClaimUse__impl_share_c1_0r N s t7 (it_slices_IndexFunc_ClaimUse__impl_share_c1_0 N s t7 n)
    kernel_rfl)
theorem run_slices_IndexFunc_ClaimUse__impl_share_c1 (N : Nat) (s : List ((List UInt8) × ((Int) × (Int)))) (p1 : (Int) × ((Int) × ((List Txt) × ((List ((List UInt8) × ((Int) × (Int)))) × ((List Txt) × (List Txt)))))) : runST (ofDs [tInt, tWant]) (tabOf tabL) (tabS (phiL_slices_IndexFunc_ClaimUse__impl_share_c1 N)) inl0 N fi_slices_IndexFunc_ClaimUse__impl_share_c1 sg_slices_IndexFunc_ClaimUse__impl_share_c1 [⟨.slice tUse, s⟩, ⟨tWant, p1⟩] = F.slices_IndexFunc_ClaimUse__impl_share_c1 N s p1 := by
    show _ = F.slices_IndexFunc_ClaimUse__impl_share_c1b N (F.slices_IndexFunc_ClaimUse__impl_share_c1_0 N) s p1
    rw [← fe_slices_IndexFunc_ClaimUse__impl_share_c1_0 N]
    kernel_rfl
def sm_slices_IndexFunc_ClaimUse__impl_share_c1 (N : Nat) : Summ := summOf [.d (.slice tUse) false, .cl 144 [tWant]] true [.d tInt false] [tInt, tWant] (F.slices_IndexFunc_ClaimUse__impl_share_c1 N)
theorem con_slices_IndexFunc_ClaimUse__impl_share_c1 (N : Nat) : Contract Tryz.prog 178 (sm_slices_IndexFunc_ClaimUse__impl_share_c1 N) := con_of (N := N) tabOK mixed (callOK_list (l := phiL_slices_IndexFunc_ClaimUse__impl_share_c1 N) (allc rfl (con_impl_share_c1 N) trivial)) (inl0_ok _) ok_slices_IndexFunc_ClaimUse__impl_share_c1 (by decide) fun s p1 => run_slices_IndexFunc_ClaimUse__impl_share_c1 N s p1
def an_slices_ContainsFunc_ClaimUse__impl_share_c1 : Nat → Option Ann := fun _ => none
noncomputable def fi_slices_ContainsFunc_ClaimUse__impl_share_c1 : FI := ⟨Tryz.f143.results.toList, bodyOf Tryz.f143.body, Tryz.f143.ntmps, an_slices_ContainsFunc_ClaimUse__impl_share_c1⟩
theorem ok_slices_ContainsFunc_ClaimUse__impl_share_c1 : FnOK Tryz.prog 143 fi_slices_ContainsFunc_ClaimUse__impl_share_c1 := ⟨⟨Tryz.f143, Tryz.func143, by kernel_rfl, rfl, rfl, by kernel_rfl⟩, by kernel_rfl⟩
def phiL_slices_ContainsFunc_ClaimUse__impl_share_c1 (N : Nat) : List (Nat × Summ) := [(14500178, sm_slices_IndexFunc_ClaimUse__impl_share_c1 N)]
def sg_slices_ContainsFunc_ClaimUse__impl_share_c1 : Summ := sigOf [.d (.slice tUse) false, .cl 144 [tWant]] true [.d (.bool) false]
theorem run_slices_ContainsFunc_ClaimUse__impl_share_c1 (N : Nat) (s : List ((List UInt8) × ((Int) × (Int)))) (p1 : (Int) × ((Int) × ((List Txt) × ((List ((List UInt8) × ((Int) × (Int)))) × ((List Txt) × (List Txt)))))) : runST (ofDs [.bool, tWant]) (tabOf tabL) (tabS (phiL_slices_ContainsFunc_ClaimUse__impl_share_c1 N)) inl0 N fi_slices_ContainsFunc_ClaimUse__impl_share_c1 sg_slices_ContainsFunc_ClaimUse__impl_share_c1 [⟨.slice tUse, s⟩, ⟨tWant, p1⟩] = F.slices_ContainsFunc_ClaimUse__impl_share_c1 N s p1 := by kernel_rfl
def sm_slices_ContainsFunc_ClaimUse__impl_share_c1 (N : Nat) : Summ := summOf [.d (.slice tUse) false, .cl 144 [tWant]] true [.d (.bool) false] [.bool, tWant] (F.slices_ContainsFunc_ClaimUse__impl_share_c1 N)
theorem con_slices_ContainsFunc_ClaimUse__impl_share_c1 (N : Nat) : Contract Tryz.prog 143 (sm_slices_ContainsFunc_ClaimUse__impl_share_c1 N) := con_of (N := N) tabOK mixed (callOK_list (l := phiL_slices_ContainsFunc_ClaimUse__impl_share_c1 N) (allc rfl (con_slices_IndexFunc_ClaimUse__impl_share_c1 N) trivial)) (inl0_ok _) ok_slices_ContainsFunc_ClaimUse__impl_share_c1 (by decide) fun s p1 => run_slices_ContainsFunc_ClaimUse__impl_share_c1 N s p1
def an_impl_share : Nat → Option Ann := fun _ => none
noncomputable def fi_impl_share : FI := ⟨Tryz.f76.results.toList, bodyOf Tryz.f76.body, Tryz.f76.ntmps, an_impl_share⟩
theorem ok_impl_share : FnOK Tryz.prog 76 fi_impl_share := ⟨⟨Tryz.f76, Tryz.func76, by kernel_rfl, rfl, rfl, by kernel_rfl⟩, by kernel_rfl⟩
def phiL_impl_share (N : Nat) : List (Nat × Summ) := [(14500143, sm_slices_ContainsFunc_ClaimUse__impl_share_c1 N)]
def sg_impl_share : Summ := sigOf [.d tWant true, .d tWant true] false [.d (.bool) false]
theorem run_impl_share (N : Nat) (a : (Int) × ((Int) × ((List Txt) × ((List ((List UInt8) × ((Int) × (Int)))) × ((List Txt) × (List Txt)))))) (b : (Int) × ((Int) × ((List Txt) × ((List ((List UInt8) × ((Int) × (Int)))) × ((List Txt) × (List Txt)))))) : runST (ofDs [.bool]) (tabOf tabL) (tabS (phiL_impl_share N)) inl0 N fi_impl_share sg_impl_share [⟨tWant, a⟩, ⟨tWant, b⟩] = F.impl_share N a b := by kernel_rfl
def sm_impl_share (N : Nat) : Summ := summOf [.d tWant true, .d tWant true] false [.d (.bool) false] [.bool] (F.impl_share N)
theorem con_impl_share (N : Nat) : Contract Tryz.prog 76 (sm_impl_share N) := con_of (N := N) tabOK mixed (callOK_list (l := phiL_impl_share N) (allc rfl (con_slices_ContainsFunc_ClaimUse__impl_share_c1 N) trivial)) (inl0_ok _) ok_impl_share (by decide) fun a b => run_impl_share N a b
def an_impl_cross : Nat → Option Ann := fun _ => none
noncomputable def fi_impl_cross : FI := ⟨Tryz.f77.results.toList, bodyOf Tryz.f77.body, Tryz.f77.ntmps, an_impl_cross⟩
theorem ok_impl_cross : FnOK Tryz.prog 77 fi_impl_cross := ⟨⟨Tryz.f77, Tryz.func77, by kernel_rfl, rfl, rfl, by kernel_rfl⟩, by kernel_rfl⟩
def phiL_impl_cross (N : Nat) : List (Nat × Summ) := [(125, sm_impl_common N)]
def sg_impl_cross : Summ := sigOf [.d tWant true, .d tWant true] false [.d (.bool) false]
theorem run_impl_cross (N : Nat) (a : (Int) × ((Int) × ((List Txt) × ((List ((List UInt8) × ((Int) × (Int)))) × ((List Txt) × (List Txt)))))) (b : (Int) × ((Int) × ((List Txt) × ((List ((List UInt8) × ((Int) × (Int)))) × ((List Txt) × (List Txt)))))) : runST (ofDs [.bool]) (tabOf tabL) (tabS (phiL_impl_cross N)) inl0 N fi_impl_cross sg_impl_cross [⟨tWant, a⟩, ⟨tWant, b⟩] = F.impl_cross N a b := by kernel_rfl
def sm_impl_cross (N : Nat) : Summ := summOf [.d tWant true, .d tWant true] false [.d (.bool) false] [.bool] (F.impl_cross N)
theorem con_impl_cross (N : Nat) : Contract Tryz.prog 77 (sm_impl_cross N) := con_of (N := N) tabOK mixed (callOK_list (l := phiL_impl_cross N) (allc rfl (con_impl_common N) trivial)) (inl0_ok _) ok_impl_cross (by decide) fun a b => run_impl_cross N a b
def an_impl_ClaimBookOk : Nat → Option Ann
  | 0 => some ⟨{ fr := [(1, Dir.keep), (40, Dir.keep), (41, Dir.keep), (42, Dir.keep)], bx := [(1, [Dir.keep, Dir.keep, Dir.keep, Dir.keep, Dir.keep])], os := [] }, [(0, { fr := [(1, Dir.keep)], bx := [(1, [Dir.keep, Dir.keep, Dir.keep, Dir.keep, Dir.keep])], os := [] })], { fr := [(2, Dir.keep)], bx := [], os := [] }⟩
  | 2 => some ⟨{ fr := [(1, Dir.keep), (81, Dir.keep), (82, Dir.keep), (83, Dir.keep)], bx := [(1, [Dir.keep, Dir.keep, Dir.keep, Dir.keep, Dir.keep])], os := [] }, [(2, { fr := [(1, Dir.keep)], bx := [(1, [Dir.keep, Dir.keep, Dir.keep, Dir.keep, Dir.keep])], os := [] })], { fr := [(2, Dir.keep)], bx := [], os := [] }⟩
  | 4 => some ⟨{ fr := [(1, Dir.keep), (149, Dir.keep), (150, Dir.keep), (151, Dir.keep)], bx := [(1, [Dir.keep, Dir.keep, Dir.keep, Dir.keep, Dir.keep])], os := [] }, [(4, { fr := [], bx := [], os := [] })], { fr := [(2, Dir.keep)], bx := [], os := [] }⟩
  | 6 => some ⟨{ fr := [(1, Dir.keep), (8, Dir.keep), (149, Dir.keep), (150, Dir.keep), (151, Dir.keep), (181, Dir.keep), (182, Dir.keep), (183, Dir.keep)], bx := [(1, [Dir.keep, Dir.keep, Dir.keep, Dir.keep, Dir.keep]), (8, [Dir.keep, Dir.keep, Dir.keep, Dir.keep, Dir.keep, Dir.keep, Dir.keep])], os := [] }, [(6, { fr := [(1, Dir.keep), (149, Dir.keep), (150, Dir.keep), (151, Dir.keep)], bx := [(1, [Dir.keep, Dir.keep, Dir.keep, Dir.keep, Dir.keep])], os := [] })], { fr := [(2, Dir.keep)], bx := [], os := [] }⟩
  | _ => none
noncomputable def fi_impl_ClaimBookOk : FI := ⟨Tryz.f22.results.toList, bodyOf Tryz.f22.body, Tryz.f22.ntmps, an_impl_ClaimBookOk⟩
theorem ok_impl_ClaimBookOk : FnOK Tryz.prog 22 fi_impl_ClaimBookOk := ⟨⟨Tryz.f22, Tryz.func22, by kernel_rfl, rfl, rfl, by kernel_rfl⟩, by kernel_rfl⟩
def phiL_impl_ClaimBookOk (N : Nat) : List (Nat × Summ) := [(70, sm_impl_names N), (71, sm_impl_in N), (72, sm_impl_name N), (73, sm_impl_ClaimFoe_ahead N), (74, sm_impl_ClaimBook_foes N), (75, sm_impl_ClaimBook_partOk N), (76, sm_impl_share N), (77, sm_impl_cross N)]
def sg_impl_ClaimBookOk : Summ := sigOf [.d tBook true] false [.d (.bool) false]
def S_impl_ClaimBookOk_6 (b : Book) (t150 : Int) (t151 : Int) (t181 : List Part) (t182 : Int) (p8c0 : Int) (p8c1 : Int) (p8c2 : List Txt) (p8c3 : List Use) (p8c4 : List Txt) (p8c5 : List Txt) (p8c6 : Bool) (t183 : Int) : St := { fr := [(1, AV.w (V1.one (C.pb 1 0))), (8, AV.w (V1.one (C.pb 8 0))), (149, AV.w (V1.one (C.v tPart.slice b.2.2.2.1))), (150, AV.w (V1.one (C.v tInt t150))), (151, AV.w (V1.one (C.v tInt t151))), (181, AV.w (V1.one (C.v tPart.slice t181))), (182, AV.w (V1.one (C.v tInt t182))), (183, AV.w (V1.one (C.v tInt t183)))], H := [(1, Ob.box [C.v tFoe.slice b.1, C.v tSpot.slice b.2.1, C.v tTxts b.2.2.1, C.v tPart.slice b.2.2.2.1, C.v tInt b.2.2.2.2]), (8, Ob.box [C.v tInt p8c0, C.v tInt p8c1, C.v tTxts p8c2, C.v tUse.slice p8c3, C.v tTxts p8c4, C.v tTxts p8c5, C.v Ty.bool p8c6])] }
def S_impl_ClaimBookOk_4 (b : Book) (t150 : Int) (t151 : Int) : St := { fr := [(1, AV.w (V1.one (C.pb 1 0))), (149, AV.w (V1.one (C.v tPart.slice b.2.2.2.1))), (150, AV.w (V1.one (C.v tInt t150))), (151, AV.w (V1.one (C.v tInt t151)))], H := [(1, Ob.box [C.v tFoe.slice b.1, C.v tSpot.slice b.2.1, C.v tTxts b.2.2.1, C.v tPart.slice b.2.2.2.1, C.v tInt b.2.2.2.2])] }
def S_impl_ClaimBookOk_2 (b : Book) (t82 : Int) (t83 : Int) : St := { fr := [(1, AV.w (V1.one (C.pb 1 0))), (81, AV.w (V1.one (C.v tSpot.slice b.2.1))), (82, AV.w (V1.one (C.v tInt t82))), (83, AV.w (V1.one (C.v tInt t83)))], H := [(1, Ob.box [C.v tFoe.slice b.1, C.v tSpot.slice b.2.1, C.v tTxts b.2.2.1, C.v tPart.slice b.2.2.2.1, C.v tInt b.2.2.2.2])] }
def S_impl_ClaimBookOk_0 (b : Book) (t41 : Int) (t42 : Int) : St := { fr := [(1, AV.w (V1.one (C.pb 1 0))), (40, AV.w (V1.one (C.v tFoe.slice b.1))), (41, AV.w (V1.one (C.v tInt t41))), (42, AV.w (V1.one (C.v tInt t42)))], H := [(1, Ob.box [C.v tFoe.slice b.1, C.v tSpot.slice b.2.1, C.v tTxts b.2.2.1, C.v tPart.slice b.2.2.2.1, C.v tInt b.2.2.2.2])] }
noncomputable def E_impl_ClaimBookOk (N : Nat) : Env := envOf (tabOf tabL) (tabS (phiL_impl_ClaimBookOk N)) inl0 N fi_impl_ClaimBookOk []
noncomputable def K_impl_ClaimBookOk := (kFun (tabOf tabL) fi_impl_ClaimBookOk.res (kT (ofDs [.bool]) sg_impl_ClaimBookOk []))
noncomputable def its_impl_ClaimBookOk_6 (N : Nat) (nxS4 : St → Option Bool) (n : Nat) : St → Option Bool := fun S' => iter [] (annAt fi_impl_ClaimBookOk 6) (code (E_impl_ClaimBookOk N) (lpIn (lpIn fi_impl_ClaimBookOk.body 0 4) 4 6) 6) n S' (contOf (E_impl_ClaimBookOk N) (lpIn fi_impl_ClaimBookOk.body 0 4) 4 6 (kLoop [] (annAt fi_impl_ClaimBookOk 4) nxS4 (contOf (E_impl_ClaimBookOk N) fi_impl_ClaimBookOk.body 0 4 K_impl_ClaimBookOk)))
noncomputable def it_impl_ClaimBookOk_6 (N : Nat) (nxS4 : St → Option Bool) (b : Book) (t150 : Int) (t151 : Int) (t181 : List Part) (t182 : Int) (p8c0 : Int) (p8c1 : Int) (p8c2 : List Txt) (p8c3 : List Use) (p8c4 : List Txt) (p8c5 : List Txt) (p8c6 : Bool) (n : Nat) : Int → Option Bool := fun t183 => its_impl_ClaimBookOk_6 N nxS4 n (S_impl_ClaimBookOk_6 b t150 t151 t181 t182 p8c0 p8c1 p8c2 p8c3 p8c4 p8c5 p8c6 t183)
theorem fe_impl_ClaimBookOk_6 (N : Nat) (nxS4 : St → Option Bool) (b : Book) (t150 : Int) : it_impl_ClaimBookOk_6 N nxS4 b t150 = impl_ClaimBookOk_6 N (fun t151 => nxS4 (S_impl_ClaimBookOk_4 b t150 t151)) b t150 := funext fun t151 => funext fun t181 => funext fun t182 => funext fun p8c0 => funext fun p8c1 => funext fun p8c2 => funext fun p8c3 => funext fun p8c4 => funext fun p8c5 => funext fun p8c6 => funext (lp_all (by kernel_rfl) fun n => by
    show _ = impl_ClaimBookOk_6r N (fun t151 => nxS4 (S_impl_ClaimBookOk_4 b t150 t151)) b t150 t151 t181 t182 p8c0 p8c1 p8c2 p8c3 p8c4 p8c5 p8c6 (it_impl_ClaimBookOk_6 N nxS4 b t150 t151 t181 t182 p8c0 p8c1 p8c2 p8c3 p8c4 p8c5 p8c6 n)
    kernel_rfl)
noncomputable def its_impl_ClaimBookOk_4 (N : Nat) (n : Nat) : St → Option Bool := fun S' => iter [] (annAt fi_impl_ClaimBookOk 4) (code (E_impl_ClaimBookOk N) (lpIn fi_impl_ClaimBookOk.body 0 4) 4) n S' (contOf (E_impl_ClaimBookOk N) fi_impl_ClaimBookOk.body 0 4 K_impl_ClaimBookOk)
noncomputable def it_impl_ClaimBookOk_4 (N : Nat) (b : Book) (t150 : Int) (n : Nat) : Int → Option Bool := fun t151 => its_impl_ClaimBookOk_4 N n (S_impl_ClaimBookOk_4 b t150 t151)
theorem fe_impl_ClaimBookOk_4 (N : Nat) : it_impl_ClaimBookOk_4 N = impl_ClaimBookOk_4 N := funext fun b => funext fun t150 => funext (lp_all (by kernel_rfl) fun n => by
    show _ = impl_ClaimBookOk_4r N (impl_ClaimBookOk_6 N (it_impl_ClaimBookOk_4 N b t150 n) b t150) b t150 (it_impl_ClaimBookOk_4 N b t150 n)
    rw [show impl_ClaimBookOk_6 N (it_impl_ClaimBookOk_4 N b t150 n) b t150 = it_impl_ClaimBookOk_6 N (its_impl_ClaimBookOk_4 N n) b t150 from (fe_impl_ClaimBookOk_6 N (its_impl_ClaimBookOk_4 N n) b t150).symm]
    kernel_rfl)
noncomputable def its_impl_ClaimBookOk_2 (N : Nat) (n : Nat) : St → Option Bool := fun S' => iter [] (annAt fi_impl_ClaimBookOk 2) (code (E_impl_ClaimBookOk N) (lpIn fi_impl_ClaimBookOk.body 0 2) 2) n S' (contOf (E_impl_ClaimBookOk N) fi_impl_ClaimBookOk.body 0 2 K_impl_ClaimBookOk)
noncomputable def it_impl_ClaimBookOk_2 (N : Nat) (b : Book) (t82 : Int) (n : Nat) : Int → Option Bool := fun t83 => its_impl_ClaimBookOk_2 N n (S_impl_ClaimBookOk_2 b t82 t83)
theorem fe_impl_ClaimBookOk_2 (N : Nat) : it_impl_ClaimBookOk_2 N = impl_ClaimBookOk_2 N := funext fun b => funext fun t82 => funext (lp_all (by kernel_rfl) fun n => by
    show _ = impl_ClaimBookOk_2r N (impl_ClaimBookOk_4 N) b t82 (it_impl_ClaimBookOk_2 N b t82 n)
    rw [show impl_ClaimBookOk_4 N = it_impl_ClaimBookOk_4 N from (fe_impl_ClaimBookOk_4 N).symm]
    kernel_rfl)
noncomputable def its_impl_ClaimBookOk_0 (N : Nat) (n : Nat) : St → Option Bool := fun S' => iter [] (annAt fi_impl_ClaimBookOk 0) (code (E_impl_ClaimBookOk N) (lpIn fi_impl_ClaimBookOk.body 0 0) 0) n S' (contOf (E_impl_ClaimBookOk N) fi_impl_ClaimBookOk.body 0 0 K_impl_ClaimBookOk)
noncomputable def it_impl_ClaimBookOk_0 (N : Nat) (b : Book) (t41 : Int) (n : Nat) : Int → Option Bool := fun t42 => its_impl_ClaimBookOk_0 N n (S_impl_ClaimBookOk_0 b t41 t42)
theorem fe_impl_ClaimBookOk_0 (N : Nat) : it_impl_ClaimBookOk_0 N = impl_ClaimBookOk_0 N := funext fun b => funext fun t41 => funext (lp_all (by kernel_rfl) fun n => by
    show _ = impl_ClaimBookOk_0r N (impl_ClaimBookOk_2 N) b t41 (it_impl_ClaimBookOk_0 N b t41 n)
    rw [show impl_ClaimBookOk_2 N = it_impl_ClaimBookOk_2 N from (fe_impl_ClaimBookOk_2 N).symm]
    kernel_rfl)
theorem run_impl_ClaimBookOk (N : Nat) (b : (List ((List UInt8) × (List UInt8))) × ((List ((List UInt8) × ((Int) × ((Int) × ((Int) × (List Txt)))))) × ((List Txt) × ((List (((Int) × ((Int) × ((List Txt) × ((List ((List UInt8) × ((Int) × (Int)))) × ((List Txt) × (List Txt)))))) × (Bool))) × (Int))))) : runST (ofDs [.bool]) (tabOf tabL) (tabS (phiL_impl_ClaimBookOk N)) inl0 N fi_impl_ClaimBookOk sg_impl_ClaimBookOk [⟨tBook, b⟩] = F.impl_ClaimBookOk N b := by
    show _ = F.impl_ClaimBookOkb N (F.impl_ClaimBookOk_0 N) b
    rw [← fe_impl_ClaimBookOk_0 N]
    kernel_rfl
def sm_impl_ClaimBookOk (N : Nat) : Summ := summOf [.d tBook true] false [.d (.bool) false] [.bool] (F.impl_ClaimBookOk N)
theorem con_impl_ClaimBookOk (N : Nat) : Contract Tryz.prog 22 (sm_impl_ClaimBookOk N) := con_of (N := N) tabOK mixed (callOK_list (l := phiL_impl_ClaimBookOk N) (allc rfl (con_impl_names N) (allc rfl (con_impl_in N) (allc rfl (con_impl_name N) (allc rfl (con_impl_ClaimFoe_ahead N) (allc rfl (con_impl_ClaimBook_foes N) (allc rfl (con_impl_ClaimBook_partOk N) (allc rfl (con_impl_share N) (allc rfl (con_impl_cross N) trivial))))))))) (inl0_ok _) ok_impl_ClaimBookOk (by decide) fun b => run_impl_ClaimBookOk N b
def an_slices_Clone_ClaimFoe : Nat → Option Ann := fun _ => none
noncomputable def fi_slices_Clone_ClaimFoe : FI := ⟨Tryz.f133.results.toList, bodyOf Tryz.f133.body, Tryz.f133.ntmps, an_slices_Clone_ClaimFoe⟩
theorem ok_slices_Clone_ClaimFoe : FnOK Tryz.prog 133 fi_slices_Clone_ClaimFoe := ⟨⟨Tryz.f133, Tryz.func133, by kernel_rfl, rfl, rfl, by kernel_rfl⟩, by kernel_rfl⟩
def phiL_slices_Clone_ClaimFoe (N : Nat) : List (Nat × Summ) := []
def sg_slices_Clone_ClaimFoe : Summ := sigOf [.d (.slice tFoe) false] false [.own (.slice tFoe) false [(106, none)]]
theorem run_slices_Clone_ClaimFoe (N : Nat) (s : List ((List UInt8) × (List UInt8))) : runST (ofDs [.slice tFoe]) (tabOf tabL) (tabS (phiL_slices_Clone_ClaimFoe N)) inl0 N fi_slices_Clone_ClaimFoe sg_slices_Clone_ClaimFoe [⟨.slice tFoe, s⟩] = F.slices_Clone_ClaimFoe N s := by kernel_rfl
def sm_slices_Clone_ClaimFoe (N : Nat) : Summ := summOf [.d (.slice tFoe) false] false [.own (.slice tFoe) false [(106, none)]] [.slice tFoe] (F.slices_Clone_ClaimFoe N)
theorem con_slices_Clone_ClaimFoe (N : Nat) : Contract Tryz.prog 133 (sm_slices_Clone_ClaimFoe N) := con_of (N := N) tabOK mixed (callOK_list (l := phiL_slices_Clone_ClaimFoe N) trivial) (inl0_ok _) ok_slices_Clone_ClaimFoe (by decide) fun s => run_slices_Clone_ClaimFoe N s
def an_slices_Clone_string : Nat → Option Ann := fun _ => none
noncomputable def fi_slices_Clone_string : FI := ⟨Tryz.f134.results.toList, bodyOf Tryz.f134.body, Tryz.f134.ntmps, an_slices_Clone_string⟩
theorem ok_slices_Clone_string : FnOK Tryz.prog 134 fi_slices_Clone_string := ⟨⟨Tryz.f134, Tryz.func134, by kernel_rfl, rfl, rfl, by kernel_rfl⟩, by kernel_rfl⟩
def phiL_slices_Clone_string (N : Nat) : List (Nat × Summ) := []
def sg_slices_Clone_string : Summ := sigOf [.d tTxts false] false [.own tTxts false [(9, none)]]
theorem run_slices_Clone_string (N : Nat) (s : List (List UInt8)) : runST (ofDs [tTxts]) (tabOf tabL) (tabS (phiL_slices_Clone_string N)) inl0 N fi_slices_Clone_string sg_slices_Clone_string [⟨tTxts, s⟩] = F.slices_Clone_string N s := by kernel_rfl
def sm_slices_Clone_string (N : Nat) : Summ := summOf [.d tTxts false] false [.own tTxts false [(9, none)]] [tTxts] (F.slices_Clone_string N)
theorem con_slices_Clone_string (N : Nat) : Contract Tryz.prog 134 (sm_slices_Clone_string N) := con_of (N := N) tabOK mixed (callOK_list (l := phiL_slices_Clone_string N) trivial) (inl0_ok _) ok_slices_Clone_string (by decide) fun s => run_slices_Clone_string N s
def an_slices_Clone_ClaimUse : Nat → Option Ann := fun _ => none
noncomputable def fi_slices_Clone_ClaimUse : FI := ⟨Tryz.f139.results.toList, bodyOf Tryz.f139.body, Tryz.f139.ntmps, an_slices_Clone_ClaimUse⟩
theorem ok_slices_Clone_ClaimUse : FnOK Tryz.prog 139 fi_slices_Clone_ClaimUse := ⟨⟨Tryz.f139, Tryz.func139, by kernel_rfl, rfl, rfl, by kernel_rfl⟩, by kernel_rfl⟩
def phiL_slices_Clone_ClaimUse (N : Nat) : List (Nat × Summ) := []
def sg_slices_Clone_ClaimUse : Summ := sigOf [.d (.slice tUse) false] false [.own (.slice tUse) false [(82, none)]]
theorem run_slices_Clone_ClaimUse (N : Nat) (s : List ((List UInt8) × ((Int) × (Int)))) : runST (ofDs [.slice tUse]) (tabOf tabL) (tabS (phiL_slices_Clone_ClaimUse N)) inl0 N fi_slices_Clone_ClaimUse sg_slices_Clone_ClaimUse [⟨.slice tUse, s⟩] = F.slices_Clone_ClaimUse N s := by kernel_rfl
def sm_slices_Clone_ClaimUse (N : Nat) : Summ := summOf [.d (.slice tUse) false] false [.own (.slice tUse) false [(82, none)]] [.slice tUse] (F.slices_Clone_ClaimUse N)
theorem con_slices_Clone_ClaimUse (N : Nat) : Contract Tryz.prog 139 (sm_slices_Clone_ClaimUse N) := con_of (N := N) tabOK mixed (callOK_list (l := phiL_slices_Clone_ClaimUse N) trivial) (inl0_ok _) ok_slices_Clone_ClaimUse (by decide) fun s => run_slices_Clone_ClaimUse N s
def an_impl_copyWant : Nat → Option Ann := fun _ => none
noncomputable def fi_impl_copyWant : FI := ⟨Tryz.f65.results.toList, bodyOf Tryz.f65.body, Tryz.f65.ntmps, an_impl_copyWant⟩
theorem ok_impl_copyWant : FnOK Tryz.prog 65 fi_impl_copyWant := ⟨⟨Tryz.f65, Tryz.func65, by kernel_rfl, rfl, rfl, by kernel_rfl⟩, by kernel_rfl⟩
def phiL_impl_copyWant (N : Nat) : List (Nat × Summ) := [(134, sm_slices_Clone_string N), (139, sm_slices_Clone_ClaimUse N)]
def sg_impl_copyWant : Summ := sigOf [.d tWant true] false [.own tWant true [(9, none), (82, none), (9, none), (9, none)]]
theorem run_impl_copyWant (N : Nat) (w : (Int) × ((Int) × ((List Txt) × ((List ((List UInt8) × ((Int) × (Int)))) × ((List Txt) × (List Txt)))))) : runST (ofDs [tWant]) (tabOf tabL) (tabS (phiL_impl_copyWant N)) inl0 N fi_impl_copyWant sg_impl_copyWant [⟨tWant, w⟩] = F.impl_copyWant N w := by kernel_rfl
def sm_impl_copyWant (N : Nat) : Summ := summOf [.d tWant true] false [.own tWant true [(9, none), (82, none), (9, none), (9, none)]] [tWant] (F.impl_copyWant N)
theorem con_impl_copyWant (N : Nat) : Contract Tryz.prog 65 (sm_impl_copyWant N) := con_of (N := N) tabOK mixed (callOK_list (l := phiL_impl_copyWant N) (allc rfl (con_slices_Clone_string N) (allc rfl (con_slices_Clone_ClaimUse N) trivial))) (inl0_ok _) ok_impl_copyWant (by decide) fun w => run_impl_copyWant N w
def an_impl_copyBook : Nat → Option Ann
  | 0 => some ⟨{ fr := [(1, Dir.keep), (2, Dir.keep), (3, Dir.keep), (18, Dir.keep), (19, Dir.keep), (20, Dir.keep)], bx := [(1, [Dir.keep, Dir.keep, Dir.keep, Dir.keep, Dir.keep]), (2, [Dir.keep, Dir.keep, Dir.keep, Dir.keep, Dir.keep]), (3, [Dir.own 1000300 106 tFoe, Dir.dow 1000301 34 [9] tSpot, Dir.own 1000302 9 Ty.str, Dir.keep, Dir.keep])], os := [] }, [(0, { fr := [(1, Dir.keep), (2, Dir.keep), (3, Dir.keep)], bx := [(1, [Dir.keep, Dir.keep, Dir.keep, Dir.keep, Dir.keep]), (2, [Dir.keep, Dir.keep, Dir.keep, Dir.keep, Dir.keep]), (3, [Dir.own 1000300 106 tFoe, Dir.dow 1000301 34 [9] tSpot, Dir.own 1000302 9 Ty.str, Dir.keep, Dir.keep])], os := [] })], ⟨[], [], []⟩⟩
  | 2 => some ⟨{ fr := [(2, Dir.keep), (3, Dir.keep), (36, Dir.keep), (37, Dir.keep), (38, Dir.keep)], bx := [(2, [Dir.keep, Dir.keep, Dir.keep, Dir.keep, Dir.keep]), (3, [Dir.own 1000300 106 tFoe, Dir.dow 1000301 34 [9] tSpot, Dir.own 1000302 9 Ty.str, Dir.dow 1000303 94 [9, 82, 9, 9] tPart, Dir.keep])], os := [] }, [(2, { fr := [(2, Dir.keep), (3, Dir.keep)], bx := [(2, [Dir.keep, Dir.keep, Dir.keep, Dir.keep, Dir.keep]), (3, [Dir.own 1000300 106 tFoe, Dir.dow 1000301 34 [9] tSpot, Dir.own 1000302 9 Ty.str, Dir.dow 1000303 94 [9, 82, 9, 9] tPart, Dir.keep])], os := [] })], ⟨[], [], []⟩⟩
  | _ => none
noncomputable def fi_impl_copyBook : FI := ⟨Tryz.f56.results.toList, bodyOf Tryz.f56.body, Tryz.f56.ntmps, an_impl_copyBook⟩
theorem ok_impl_copyBook : FnOK Tryz.prog 56 fi_impl_copyBook := ⟨⟨Tryz.f56, Tryz.func56, by kernel_rfl, rfl, rfl, by kernel_rfl⟩, by kernel_rfl⟩
def phiL_impl_copyBook (N : Nat) : List (Nat × Summ) := [(133, sm_slices_Clone_ClaimFoe N), (134, sm_slices_Clone_string N), (65, sm_impl_copyWant N)]
def sg_impl_copyBook : Summ := sigOf [.d tBook true] false [.own tBook true [(106, none), (34, (some [9])), (9, none), (94, (some [9, 82, 9, 9]))]]
def S_impl_copyBook_2 (b : Book) (r : List Foe) (r_1 : List Txt) (t2c4 : Int) (out3c1a : List Spot) (t37 : Int) (t38 : Int) (out3c3a : List Part) : St := { fr := [(2, AV.w (V1.one (C.pb 2 0))), (3, AV.w (V1.one (C.pb 3 0))), (36, AV.w (V1.one (C.v tPart.slice b.2.2.2.1))), (37, AV.w (V1.one (C.v tInt t37))), (38, AV.w (V1.one (C.v tInt t38)))], H := [(2, Ob.box [C.emp, C.emp, C.emp, C.emp, C.v tInt t2c4]), (3, Ob.box [C.arr 1000300, C.arr 1000301, C.arr 1000302, C.arr 1000303, C.v tInt b.2.2.2.2]), (1000300, Ob.arr 106 tFoe r), (1000301, Ob.arr 34 tSpot out3c1a (Dp.yes [9])), (1000302, Ob.arr 9 Ty.str r_1), (1000303, Ob.arr 94 tPart out3c3a (Dp.yes [9, 82, 9, 9]))] }
def S_impl_copyBook_0 (b : Book) (r : List Foe) (r_1 : List Txt) (t19 : Int) (t2c4 : Int) (t20 : Int) (out3c1a : List Spot) : St := { fr := [(1, AV.w (V1.one (C.pb 1 0))), (2, AV.w (V1.one (C.pb 2 0))), (3, AV.w (V1.one (C.pb 3 0))), (18, AV.w (V1.one (C.v tSpot.slice b.2.1))), (19, AV.w (V1.one (C.v tInt t19))), (20, AV.w (V1.one (C.v tInt t20)))], H := [(1, Ob.box [C.v tFoe.slice b.1, C.v tSpot.slice b.2.1, C.v tTxts b.2.2.1, C.v tPart.slice b.2.2.2.1, C.v tInt b.2.2.2.2]), (2, Ob.box [C.emp, C.emp, C.emp, C.emp, C.v tInt t2c4]), (3, Ob.box [C.arr 1000300, C.arr 1000301, C.arr 1000302, C.emp, C.v tInt b.2.2.2.2]), (1000300, Ob.arr 106 tFoe r), (1000301, Ob.arr 34 tSpot out3c1a (Dp.yes [9])), (1000302, Ob.arr 9 Ty.str r_1)] }
noncomputable def E_impl_copyBook (N : Nat) : Env := envOf (tabOf tabL) (tabS (phiL_impl_copyBook N)) inl0 N fi_impl_copyBook []
noncomputable def K_impl_copyBook := (kFun (tabOf tabL) fi_impl_copyBook.res (kT (ofDs [tBook]) sg_impl_copyBook []))
noncomputable def its_impl_copyBook_2 (N : Nat) (n : Nat) : St → Option Book := fun S' => iter [] (annAt fi_impl_copyBook 2) (code (E_impl_copyBook N) (lpIn fi_impl_copyBook.body 0 2) 2) n S' (contOf (E_impl_copyBook N) fi_impl_copyBook.body 0 2 K_impl_copyBook)
noncomputable def it_impl_copyBook_2 (N : Nat) (b : Book) (r : List Foe) (r_1 : List Txt) (t2c4 : Int) (out3c1a : List Spot) (t37 : Int) (n : Nat) : Int → (List Part) → Option Book := fun t38 out3c3a => its_impl_copyBook_2 N n (S_impl_copyBook_2 b r r_1 t2c4 out3c1a t37 t38 out3c3a)
theorem fe_impl_copyBook_2 (N : Nat) : it_impl_copyBook_2 N = impl_copyBook_2 N := funext fun b => funext fun r => funext fun r_1 => funext fun t2c4 => funext fun out3c1a => funext fun t37 => funext (lp_all (by kernel_rfl) fun n => by
    show _ = impl_copyBook_2r N b r r_1 t2c4 out3c1a t37 (it_impl_copyBook_2 N b r r_1 t2c4 out3c1a t37 n)
    kernel_rfl)
noncomputable def its_impl_copyBook_0 (N : Nat) (n : Nat) : St → Option Book := fun S' => iter [] (annAt fi_impl_copyBook 0) (code (E_impl_copyBook N) (lpIn fi_impl_copyBook.body 0 0) 0) n S' (contOf (E_impl_copyBook N) fi_impl_copyBook.body 0 0 K_impl_copyBook)
noncomputable def it_impl_copyBook_0 (N : Nat) (b : Book) (r : List Foe) (r_1 : List Txt) (t19 : Int) (t2c4 : Int) (n : Nat) : Int → (List Spot) → Option Book := fun t20 out3c1a => its_impl_copyBook_0 N n (S_impl_copyBook_0 b r r_1 t19 t2c4 t20 out3c1a)
theorem fe_impl_copyBook_0 (N : Nat) : it_impl_copyBook_0 N = impl_copyBook_0 N := funext fun b => funext fun r => funext fun r_1 => funext fun t19 => funext fun t2c4 => funext (lp_all (by kernel_rfl) fun n => by
    show _ = impl_copyBook_0r N (impl_copyBook_2 N) b r r_1 t19 t2c4 (it_impl_copyBook_0 N b r r_1 t19 t2c4 n)
    rw [show impl_copyBook_2 N = it_impl_copyBook_2 N from (fe_impl_copyBook_2 N).symm]
    kernel_rfl)
theorem run_impl_copyBook (N : Nat) (b : (List ((List UInt8) × (List UInt8))) × ((List ((List UInt8) × ((Int) × ((Int) × ((Int) × (List Txt)))))) × ((List Txt) × ((List (((Int) × ((Int) × ((List Txt) × ((List ((List UInt8) × ((Int) × (Int)))) × ((List Txt) × (List Txt)))))) × (Bool))) × (Int))))) : runST (ofDs [tBook]) (tabOf tabL) (tabS (phiL_impl_copyBook N)) inl0 N fi_impl_copyBook sg_impl_copyBook [⟨tBook, b⟩] = F.impl_copyBook N b := by
    show _ = F.impl_copyBookb N (F.impl_copyBook_0 N) b
    rw [← fe_impl_copyBook_0 N]
    kernel_rfl
def sm_impl_copyBook (N : Nat) : Summ := summOf [.d tBook true] false [.own tBook true [(106, none), (34, (some [9])), (9, none), (94, (some [9, 82, 9, 9]))]] [tBook] (F.impl_copyBook N)
theorem con_impl_copyBook (N : Nat) : Contract Tryz.prog 56 (sm_impl_copyBook N) := con_of (N := N) tabOK mixed (callOK_list (l := phiL_impl_copyBook N) (allc rfl (con_slices_Clone_ClaimFoe N) (allc rfl (con_slices_Clone_string N) (allc rfl (con_impl_copyWant N) trivial)))) (inl0_ok _) ok_impl_copyBook (by decide) fun b => run_impl_copyBook N b
def an_impl_ClaimBook_part_c1 : Nat → Option Ann := fun _ => none
noncomputable def fi_impl_ClaimBook_part_c1 : FI := ⟨Tryz.f136.results.toList, bodyOf Tryz.f136.body, Tryz.f136.ntmps, an_impl_ClaimBook_part_c1⟩
theorem ok_impl_ClaimBook_part_c1 : FnOK Tryz.prog 136 fi_impl_ClaimBook_part_c1 := ⟨⟨Tryz.f136, Tryz.func136, by kernel_rfl, rfl, rfl, by kernel_rfl⟩, by kernel_rfl⟩
def phiL_impl_ClaimBook_part_c1 (N : Nat) : List (Nat × Summ) := []
def sg_impl_ClaimBook_part_c1 : Summ := sigOf [.d tPart true, .bx tInt] true [.d (.bool) false]
theorem run_impl_ClaimBook_part_c1 (N : Nat) (p : ((Int) × ((Int) × ((List Txt) × ((List ((List UInt8) × ((Int) × (Int)))) × ((List Txt) × (List Txt)))))) × (Bool)) (p1 : Int) : runST (ofDs [.bool, tInt]) (tabOf tabL) (tabS (phiL_impl_ClaimBook_part_c1 N)) inl0 N fi_impl_ClaimBook_part_c1 sg_impl_ClaimBook_part_c1 [⟨tPart, p⟩, ⟨tInt, p1⟩] = F.impl_ClaimBook_part_c1 N p p1 := by kernel_rfl
def sm_impl_ClaimBook_part_c1 (N : Nat) : Summ := summOf [.d tPart true, .bx tInt] true [.d (.bool) false] [.bool, tInt] (F.impl_ClaimBook_part_c1 N)
theorem con_impl_ClaimBook_part_c1 (N : Nat) : Contract Tryz.prog 136 (sm_impl_ClaimBook_part_c1 N) := con_of (N := N) tabOK mixed (callOK_list (l := phiL_impl_ClaimBook_part_c1 N) trivial) (inl0_ok _) ok_impl_ClaimBook_part_c1 (by decide) fun p p1 => run_impl_ClaimBook_part_c1 N p p1
def an_slices_IndexFunc_ClaimPart__impl_ClaimBook_part_c1 : Nat → Option Ann
  | 0 => some ⟨{ fr := [(0, Dir.keep), (1, Dir.keep), (7, Dir.keep), (8, Dir.keep)], bx := [(500001, [Dir.keep])], os := [] }, [(0, { fr := [], bx := [(500001, [Dir.keep])], os := [] })], { fr := [(4, Dir.keep)], bx := [(500001, [Dir.keep])], os := [] }⟩
  | _ => none
noncomputable def fi_slices_IndexFunc_ClaimPart__impl_ClaimBook_part_c1 : FI := ⟨Tryz.f135.results.toList, bodyOf Tryz.f135.body, Tryz.f135.ntmps, an_slices_IndexFunc_ClaimPart__impl_ClaimBook_part_c1⟩
theorem ok_slices_IndexFunc_ClaimPart__impl_ClaimBook_part_c1 : FnOK Tryz.prog 135 fi_slices_IndexFunc_ClaimPart__impl_ClaimBook_part_c1 := ⟨⟨Tryz.f135, Tryz.func135, by kernel_rfl, rfl, rfl, by kernel_rfl⟩, by kernel_rfl⟩
def phiL_slices_IndexFunc_ClaimPart__impl_ClaimBook_part_c1 (N : Nat) : List (Nat × Summ) := [(136, sm_impl_ClaimBook_part_c1 N)]
def sg_slices_IndexFunc_ClaimPart__impl_ClaimBook_part_c1 : Summ := sigOf [.d (.slice tPart) false, .cl 136 [tInt]] true [.d tInt false]
def S_slices_IndexFunc_ClaimPart__impl_ClaimBook_part_c1_0 (s : List Part) (t7 : Int) (t8 : Int) (fpc0 : Int) : St := { fr := [(0, AV.w (V1.one (C.v tPart.slice s))), (1, AV.w (V1.one (C.fn 136 [500001]))), (7, AV.w (V1.one (C.v tInt t7))), (8, AV.w (V1.one (C.v tInt t8)))], H := [(500001, Ob.box [C.v tInt fpc0])] }
noncomputable def E_slices_IndexFunc_ClaimPart__impl_ClaimBook_part_c1 (N : Nat) : Env := envOf (tabOf tabL) (tabS (phiL_slices_IndexFunc_ClaimPart__impl_ClaimBook_part_c1 N)) inl0 N fi_slices_IndexFunc_ClaimPart__impl_ClaimBook_part_c1 [500001]
noncomputable def K_slices_IndexFunc_ClaimPart__impl_ClaimBook_part_c1 := (kFun (tabOf tabL) fi_slices_IndexFunc_ClaimPart__impl_ClaimBook_part_c1.res (kT (ofDs [tInt, tInt]) sg_slices_IndexFunc_ClaimPart__impl_ClaimBook_part_c1 [(500001, .bx tInt)]))
noncomputable def its_slices_IndexFunc_ClaimPart__impl_ClaimBook_part_c1_0 (N : Nat) (n : Nat) : St → Option (Int × Int) := fun S' => iter [500001] (annAt fi_slices_IndexFunc_ClaimPart__impl_ClaimBook_part_c1 0) (code (E_slices_IndexFunc_ClaimPart__impl_ClaimBook_part_c1 N) (lpIn fi_slices_IndexFunc_ClaimPart__impl_ClaimBook_part_c1.body 0 0) 0) n S' (contOf (E_slices_IndexFunc_ClaimPart__impl_ClaimBook_part_c1 N) fi_slices_IndexFunc_ClaimPart__impl_ClaimBook_part_c1.body 0 0 K_slices_IndexFunc_ClaimPart__impl_ClaimBook_part_c1)
noncomputable def it_slices_IndexFunc_ClaimPart__impl_ClaimBook_part_c1_0 (N : Nat) (s : List Part) (t7 : Int) (n : Nat) : Int → Int → Option (Int × Int) := fun t8 fpc0 => its_slices_IndexFunc_ClaimPart__impl_ClaimBook_part_c1_0 N n (S_slices_IndexFunc_ClaimPart__impl_ClaimBook_part_c1_0 s t7 t8 fpc0)
theorem fe_slices_IndexFunc_ClaimPart__impl_ClaimBook_part_c1_0 (N : Nat) : it_slices_IndexFunc_ClaimPart__impl_ClaimBook_part_c1_0 N = slices_IndexFunc_ClaimPart__impl_ClaimBook_part_c1_0 N := funext fun s => funext fun t7 => funext (lp_all (by kernel_rfl) fun n => by
    show _ = slices_IndexFunc_ClaimPart__impl_ClaimBook_part_c1_0r N s t7 (it_slices_IndexFunc_ClaimPart__impl_ClaimBook_part_c1_0 N s t7 n)
    kernel_rfl)
theorem run_slices_IndexFunc_ClaimPart__impl_ClaimBook_part_c1 (N : Nat) (s : List (((Int) × ((Int) × ((List Txt) × ((List ((List UInt8) × ((Int) × (Int)))) × ((List Txt) × (List Txt)))))) × (Bool))) (p1 : Int) : runST (ofDs [tInt, tInt]) (tabOf tabL) (tabS (phiL_slices_IndexFunc_ClaimPart__impl_ClaimBook_part_c1 N)) inl0 N fi_slices_IndexFunc_ClaimPart__impl_ClaimBook_part_c1 sg_slices_IndexFunc_ClaimPart__impl_ClaimBook_part_c1 [⟨.slice tPart, s⟩, ⟨tInt, p1⟩] = F.slices_IndexFunc_ClaimPart__impl_ClaimBook_part_c1 N s p1 := by
    show _ = F.slices_IndexFunc_ClaimPart__impl_ClaimBook_part_c1b N (F.slices_IndexFunc_ClaimPart__impl_ClaimBook_part_c1_0 N) s p1
    rw [← fe_slices_IndexFunc_ClaimPart__impl_ClaimBook_part_c1_0 N]
    kernel_rfl
def sm_slices_IndexFunc_ClaimPart__impl_ClaimBook_part_c1 (N : Nat) : Summ := summOf [.d (.slice tPart) false, .cl 136 [tInt]] true [.d tInt false] [tInt, tInt] (F.slices_IndexFunc_ClaimPart__impl_ClaimBook_part_c1 N)
theorem con_slices_IndexFunc_ClaimPart__impl_ClaimBook_part_c1 (N : Nat) : Contract Tryz.prog 135 (sm_slices_IndexFunc_ClaimPart__impl_ClaimBook_part_c1 N) := con_of (N := N) tabOK mixed (callOK_list (l := phiL_slices_IndexFunc_ClaimPart__impl_ClaimBook_part_c1 N) (allc rfl (con_impl_ClaimBook_part_c1 N) trivial)) (inl0_ok _) ok_slices_IndexFunc_ClaimPart__impl_ClaimBook_part_c1 (by decide) fun s p1 => run_slices_IndexFunc_ClaimPart__impl_ClaimBook_part_c1 N s p1
def an_impl_ClaimBook_part : Nat → Option Ann := fun _ => none
noncomputable def fi_impl_ClaimBook_part : FI := ⟨Tryz.f57.results.toList, bodyOf Tryz.f57.body, Tryz.f57.ntmps, an_impl_ClaimBook_part⟩
theorem ok_impl_ClaimBook_part : FnOK Tryz.prog 57 fi_impl_ClaimBook_part := ⟨⟨Tryz.f57, Tryz.func57, by kernel_rfl, rfl, rfl, by kernel_rfl⟩, by kernel_rfl⟩
def phiL_impl_ClaimBook_part (N : Nat) : List (Nat × Summ) := [(13700135, sm_slices_IndexFunc_ClaimPart__impl_ClaimBook_part_c1 N)]
def sg_impl_ClaimBook_part : Summ := sigOf [.d tBook true, .d tInt false] false [.d tInt false]
theorem run_impl_ClaimBook_part (N : Nat) (b : (List ((List UInt8) × (List UInt8))) × ((List ((List UInt8) × ((Int) × ((Int) × ((Int) × (List Txt)))))) × ((List Txt) × ((List (((Int) × ((Int) × ((List Txt) × ((List ((List UInt8) × ((Int) × (Int)))) × ((List Txt) × (List Txt)))))) × (Bool))) × (Int))))) (number : Int) : runST (ofDs [tInt]) (tabOf tabL) (tabS (phiL_impl_ClaimBook_part N)) inl0 N fi_impl_ClaimBook_part sg_impl_ClaimBook_part [⟨tBook, b⟩, ⟨tInt, number⟩] = F.impl_ClaimBook_part N b number := by kernel_rfl
def sm_impl_ClaimBook_part (N : Nat) : Summ := summOf [.d tBook true, .d tInt false] false [.d tInt false] [tInt] (F.impl_ClaimBook_part N)
theorem con_impl_ClaimBook_part (N : Nat) : Contract Tryz.prog 57 (sm_impl_ClaimBook_part N) := con_of (N := N) tabOK mixed (callOK_list (l := phiL_impl_ClaimBook_part N) (allc rfl (con_slices_IndexFunc_ClaimPart__impl_ClaimBook_part_c1 N) trivial)) (inl0_ok _) ok_impl_ClaimBook_part (by decide) fun b number => run_impl_ClaimBook_part N b number
def an_impl_ClaimOver : Nat → Option Ann
  | 0 => some ⟨{ fr := [(2, Dir.keep), (3, Dir.keep), (4, Dir.keep), (8, Dir.keep), (10, Dir.keep), (11, Dir.keep), (12, Dir.keep), (40, Dir.keep), (41, Dir.keep), (42, Dir.keep)], bx := [(4, [Dir.keep, Dir.keep, Dir.keep, Dir.keep, Dir.keep]), (8, [Dir.keep, Dir.keep, Dir.keep, Dir.keep, Dir.keep]), (10, [Dir.own 1001000 106 tFoe, Dir.dow 1001001 34 [9] tSpot, Dir.own 1001002 9 Ty.str, Dir.dow 1001003 94 [9, 82, 9, 9] tPart, Dir.keep]), (12, [Dir.keep, Dir.keep, Dir.keep, Dir.keep, Dir.keep, Dir.keep])], os := [] }, [(0, { fr := [(2, Dir.keep), (3, Dir.keep), (4, Dir.keep), (8, Dir.keep), (10, Dir.keep), (11, Dir.keep), (12, Dir.keep)], bx := [(4, [Dir.keep, Dir.keep, Dir.keep, Dir.keep, Dir.keep]), (8, [Dir.own 1000800 106 tFoe, Dir.dow 1000801 34 [9] tSpot, Dir.own 1000802 9 Ty.str, Dir.dow 1000803 94 [9, 82, 9, 9] tPart, Dir.keep]), (10, [Dir.own 1001000 106 tFoe, Dir.dow 1001001 34 [9] tSpot, Dir.own 1001002 9 Ty.str, Dir.dow 1001003 94 [9, 82, 9, 9] tPart, Dir.keep]), (12, [Dir.keep, Dir.keep, Dir.keep, Dir.keep, Dir.keep, Dir.keep])], os := [] })], { fr := [(8, Dir.keep), (9, Dir.keep)], bx := [(8, [Dir.own 1000800 106 tFoe, Dir.dow 1000801 34 [9] tSpot, Dir.own 1000802 9 Ty.str, Dir.dow 1000803 94 [9, 82, 9, 9] tPart, Dir.keep])], os := [] }⟩
  | 2 => some ⟨{ fr := [(2, Dir.keep), (3, Dir.keep), (8, Dir.keep), (10, Dir.keep), (12, Dir.keep), (73, Dir.keep), (74, Dir.keep), (75, Dir.keep)], bx := [(8, [Dir.own 1000800 106 tFoe, Dir.dow 1000801 34 [9] tSpot, Dir.own 1000802 9 Ty.str, Dir.dow 1000803 94 [9, 82, 9, 9] tPart, Dir.keep]), (10, [Dir.own 1001000 106 tFoe, Dir.dow 1001001 34 [9] tSpot, Dir.own 1001002 9 Ty.str, Dir.dow 1001003 94 [9, 82, 9, 9] tPart, Dir.keep]), (12, [Dir.keep, Dir.keep, Dir.keep, Dir.keep, Dir.keep, Dir.keep])], os := [] }, [(2, { fr := [(8, Dir.keep), (10, Dir.keep)], bx := [(8, [Dir.own 1000800 106 tFoe, Dir.dow 1000801 34 [9] tSpot, Dir.own 1000802 9 Ty.str, Dir.dow 1000803 94 [9, 82, 9, 9] tPart, Dir.keep]), (10, [Dir.own 1001000 106 tFoe, Dir.dow 1001001 34 [9] tSpot, Dir.own 1001002 9 Ty.str, Dir.dow 1001003 94 [9, 82, 9, 9] tPart, Dir.keep])], os := [] })], ⟨[], [], []⟩⟩
  | _ => none
noncomputable def fi_impl_ClaimOver : FI := ⟨Tryz.f14.results.toList, bodyOf Tryz.f14.body, Tryz.f14.ntmps, an_impl_ClaimOver⟩
theorem ok_impl_ClaimOver : FnOK Tryz.prog 14 fi_impl_ClaimOver := ⟨⟨Tryz.f14, Tryz.func14, by kernel_rfl, rfl, rfl, by kernel_rfl⟩, by kernel_rfl⟩
def phiL_impl_ClaimOver (N : Nat) : List (Nat × Summ) := [(22, sm_impl_ClaimBookOk N), (56, sm_impl_copyBook N), (57, sm_impl_ClaimBook_part N), (60, sm_impl_ClaimBook_at N)]
def sg_impl_ClaimOver : Summ := sigOf [.d tBook true, .d tInt false, .d tInt false, .d (.bool) false] false [.own tBook true [(106, none), (34, (some [9])), (9, none), (94, (some [9, 82, 9, 9]))], .d tInt false]
def S_impl_ClaimOver_2 (moved : Int) (done : Bool) (r_1 : Book) (t8c4 : Int) (w12c0 : Int) (w12c1 : Int) (w12c2 : List Txt) (w12c3 : List Use) (w12c4 : List Txt) (w12c5 : List Txt) (t74 : Int) (t8c0a : List Foe) (t8c1a : List Spot) (t8c2a : List Txt) (t8c3a : List Part) (out10c3a_1 : List Part) (t75 : Int) (out10c1a_1 : List Spot) : St := { fr := [(2, AV.w (V1.one (C.v tInt moved))), (3, AV.w (V1.one (C.v Ty.bool done))), (8, AV.w (V1.one (C.pb 8 0))), (10, AV.w (V1.one (C.pb 10 0))), (12, AV.w (V1.one (C.pb 12 0))), (73, AV.w (V1.one (C.v tUse.slice w12c3))), (74, AV.w (V1.one (C.v tInt t74))), (75, AV.w (V1.one (C.v tInt t75)))], H := [(8, Ob.box [C.arr 1000800, C.arr 1000801, C.arr 1000802, C.arr 1000803, C.v tInt t8c4]), (10, Ob.box [C.arr 1001000, C.arr 1001001, C.arr 1001002, C.arr 1001003, C.v tInt r_1.2.2.2.2]), (12, Ob.box [C.v tInt w12c0, C.v tInt w12c1, C.v tTxts w12c2, C.v tUse.slice w12c3, C.v tTxts w12c4, C.v tTxts w12c5]), (1000800, Ob.arr 106 tFoe t8c0a), (1000801, Ob.arr 34 tSpot t8c1a (Dp.yes [9])), (1000802, Ob.arr 9 Ty.str t8c2a), (1000803, Ob.arr 94 tPart t8c3a (Dp.yes [9, 82, 9, 9])), (1001000, Ob.arr 106 tFoe r_1.1), (1001001, Ob.arr 34 tSpot out10c1a_1 (Dp.yes [9])), (1001002, Ob.arr 9 Ty.str r_1.2.2.1), (1001003, Ob.arr 94 tPart out10c3a_1 (Dp.yes [9, 82, 9, 9]))] }
def S_impl_ClaimOver_0 (b : Book) (moved : Int) (done : Bool) (r_1 : Book) (r_2 : Int) (t40 : List Use) (t41 : Int) (t8c4 : Int) (w12c0 : Int) (w12c1 : Int) (w12c2 : List Txt) (w12c3 : List Use) (w12c4 : List Txt) (w12c5 : List Txt) (t42 : Int) : St := { fr := [(2, AV.w (V1.one (C.v tInt moved))), (3, AV.w (V1.one (C.v Ty.bool done))), (4, AV.w (V1.one (C.pb 4 0))), (8, AV.w (V1.one (C.pb 8 0))), (10, AV.w (V1.one (C.pb 10 0))), (11, AV.w (V1.one (C.v tInt r_2))), (12, AV.w (V1.one (C.pb 12 0))), (40, AV.w (V1.one (C.v tUse.slice t40))), (41, AV.w (V1.one (C.v tInt t41))), (42, AV.w (V1.one (C.v tInt t42)))], H := [(4, Ob.box [C.v tFoe.slice b.1, C.v tSpot.slice b.2.1, C.v tTxts b.2.2.1, C.v tPart.slice b.2.2.2.1, C.v tInt b.2.2.2.2]), (8, Ob.box [C.emp, C.emp, C.emp, C.emp, C.v tInt t8c4]), (10, Ob.box [C.arr 1001000, C.arr 1001001, C.arr 1001002, C.arr 1001003, C.v tInt r_1.2.2.2.2]), (12, Ob.box [C.v tInt w12c0, C.v tInt w12c1, C.v tTxts w12c2, C.v tUse.slice w12c3, C.v tTxts w12c4, C.v tTxts w12c5]), (1001000, Ob.arr 106 tFoe r_1.1), (1001001, Ob.arr 34 tSpot r_1.2.1 (Dp.yes [9])), (1001002, Ob.arr 9 Ty.str r_1.2.2.1), (1001003, Ob.arr 94 tPart r_1.2.2.2.1 (Dp.yes [9, 82, 9, 9]))] }
noncomputable def E_impl_ClaimOver (N : Nat) : Env := envOf (tabOf tabL) (tabS (phiL_impl_ClaimOver N)) inlS N fi_impl_ClaimOver []
noncomputable def K_impl_ClaimOver := (kFun (tabOf tabL) fi_impl_ClaimOver.res (kT (ofDs [tBook, tInt]) sg_impl_ClaimOver []))
noncomputable def its_impl_ClaimOver_2 (N : Nat) (n : Nat) : St → Option (Book × Int) := fun S' => iter [] (annAt fi_impl_ClaimOver 2) (code (E_impl_ClaimOver N) (lpIn fi_impl_ClaimOver.body 0 2) 2) n S' (contOf (E_impl_ClaimOver N) fi_impl_ClaimOver.body 0 2 K_impl_ClaimOver)
noncomputable def it_impl_ClaimOver_2 (N : Nat) (moved : Int) (done : Bool) (r_1 : Book) (t8c4 : Int) (w12c0 : Int) (w12c1 : Int) (w12c2 : List Txt) (w12c3 : List Use) (w12c4 : List Txt) (w12c5 : List Txt) (t74 : Int) (t8c0a : List Foe) (t8c1a : List Spot) (t8c2a : List Txt) (t8c3a : List Part) (out10c3a_1 : List Part) (n : Nat) : Int → (List Spot) → Option (Book × Int) := fun t75 out10c1a_1 => its_impl_ClaimOver_2 N n (S_impl_ClaimOver_2 moved done r_1 t8c4 w12c0 w12c1 w12c2 w12c3 w12c4 w12c5 t74 t8c0a t8c1a t8c2a t8c3a out10c3a_1 t75 out10c1a_1)
theorem fe_impl_ClaimOver_2 (N : Nat) : it_impl_ClaimOver_2 N = impl_ClaimOver_2 N := funext fun moved => funext fun done => funext fun r_1 => funext fun t8c4 => funext fun w12c0 => funext fun w12c1 => funext fun w12c2 => funext fun w12c3 => funext fun w12c4 => funext fun w12c5 => funext fun t74 => funext fun t8c0a => funext fun t8c1a => funext fun t8c2a => funext fun t8c3a => funext fun out10c3a_1 => funext (lp_all (by kernel_rfl) fun n => by
    show _ = impl_ClaimOver_2r N moved done r_1 t8c4 w12c0 w12c1 w12c2 w12c3 w12c4 w12c5 t74 t8c0a t8c1a t8c2a t8c3a out10c3a_1 (it_impl_ClaimOver_2 N moved done r_1 t8c4 w12c0 w12c1 w12c2 w12c3 w12c4 w12c5 t74 t8c0a t8c1a t8c2a t8c3a out10c3a_1 n)
    kernel_rfl)
noncomputable def its_impl_ClaimOver_0 (N : Nat) (n : Nat) : St → Option (Book × Int) := fun S' => iter [] (annAt fi_impl_ClaimOver 0) (code (E_impl_ClaimOver N) (lpIn fi_impl_ClaimOver.body 0 0) 0) n S' (contOf (E_impl_ClaimOver N) fi_impl_ClaimOver.body 0 0 K_impl_ClaimOver)
noncomputable def it_impl_ClaimOver_0 (N : Nat) (b : Book) (moved : Int) (done : Bool) (r_1 : Book) (r_2 : Int) (t40 : List Use) (t41 : Int) (t8c4 : Int) (w12c0 : Int) (w12c1 : Int) (w12c2 : List Txt) (w12c3 : List Use) (w12c4 : List Txt) (w12c5 : List Txt) (n : Nat) : Int → Option (Book × Int) := fun t42 => its_impl_ClaimOver_0 N n (S_impl_ClaimOver_0 b moved done r_1 r_2 t40 t41 t8c4 w12c0 w12c1 w12c2 w12c3 w12c4 w12c5 t42)
theorem fe_impl_ClaimOver_0 (N : Nat) : it_impl_ClaimOver_0 N = impl_ClaimOver_0 N := funext fun b => funext fun moved => funext fun done => funext fun r_1 => funext fun r_2 => funext fun t40 => funext fun t41 => funext fun t8c4 => funext fun w12c0 => funext fun w12c1 => funext fun w12c2 => funext fun w12c3 => funext fun w12c4 => funext fun w12c5 => funext (lp_all (by kernel_rfl) fun n => by
    show _ = impl_ClaimOver_0r N (impl_ClaimOver_2 N) b moved done r_1 r_2 t40 t41 t8c4 w12c0 w12c1 w12c2 w12c3 w12c4 w12c5 (it_impl_ClaimOver_0 N b moved done r_1 r_2 t40 t41 t8c4 w12c0 w12c1 w12c2 w12c3 w12c4 w12c5 n)
    rw [show impl_ClaimOver_2 N = it_impl_ClaimOver_2 N from (fe_impl_ClaimOver_2 N).symm]
    kernel_rfl)
theorem run_impl_ClaimOver (N : Nat) (b : (List ((List UInt8) × (List UInt8))) × ((List ((List UInt8) × ((Int) × ((Int) × ((Int) × (List Txt)))))) × ((List Txt) × ((List (((Int) × ((Int) × ((List Txt) × ((List ((List UInt8) × ((Int) × (Int)))) × ((List Txt) × (List Txt)))))) × (Bool))) × (Int))))) (number : Int) (moved : Int) (done : Bool) : runST (ofDs [tBook, tInt]) (tabOf tabL) (tabS (phiL_impl_ClaimOver N)) inlS N fi_impl_ClaimOver sg_impl_ClaimOver [⟨tBook, b⟩, ⟨tInt, number⟩, ⟨tInt, moved⟩, ⟨.bool, done⟩] = F.impl_ClaimOver N b number moved done := by
    show _ = F.impl_ClaimOverb N (F.impl_ClaimOver_0 N) b number moved done
    rw [← fe_impl_ClaimOver_0 N]
    kernel_rfl
def sm_impl_ClaimOver (N : Nat) : Summ := summOf [.d tBook true, .d tInt false, .d tInt false, .d (.bool) false] false [.own tBook true [(106, none), (34, (some [9])), (9, none), (94, (some [9, 82, 9, 9]))], .d tInt false] [tBook, tInt] (F.impl_ClaimOver N)
theorem con_impl_ClaimOver (N : Nat) : Contract Tryz.prog 14 (sm_impl_ClaimOver N) := con_of (N := N) tabOK mixed (callOK_list (l := phiL_impl_ClaimOver N) (allc rfl (con_impl_ClaimBookOk N) (allc rfl (con_impl_copyBook N) (allc rfl (con_impl_ClaimBook_part N) (allc rfl (con_impl_ClaimBook_at N) trivial))))) inlS_ok ok_impl_ClaimOver (by decide) fun b number moved done => run_impl_ClaimOver N b number moved done
def an_laws_eqClaimFoe : Nat → Option Ann := fun _ => none
noncomputable def fi_laws_eqClaimFoe : FI := ⟨Tryz.f152.results.toList, bodyOf Tryz.f152.body, Tryz.f152.ntmps, an_laws_eqClaimFoe⟩
theorem ok_laws_eqClaimFoe : FnOK Tryz.prog 152 fi_laws_eqClaimFoe := ⟨⟨Tryz.f152, Tryz.func152, by kernel_rfl, rfl, rfl, by kernel_rfl⟩, by kernel_rfl⟩
def phiL_laws_eqClaimFoe (N : Nat) : List (Nat × Summ) := []
def sg_laws_eqClaimFoe : Summ := sigOf [.d tFoe true, .d tFoe true] false [.d (.bool) false]
theorem run_laws_eqClaimFoe (N : Nat) (a : (List UInt8) × (List UInt8)) (b : (List UInt8) × (List UInt8)) : runST (ofDs [.bool]) (tabOf tabL) (tabS (phiL_laws_eqClaimFoe N)) inl0 N fi_laws_eqClaimFoe sg_laws_eqClaimFoe [⟨tFoe, a⟩, ⟨tFoe, b⟩] = F.laws_eqClaimFoe N a b := by kernel_rfl
def sm_laws_eqClaimFoe (N : Nat) : Summ := summOf [.d tFoe true, .d tFoe true] false [.d (.bool) false] [.bool] (F.laws_eqClaimFoe N)
theorem con_laws_eqClaimFoe (N : Nat) : Contract Tryz.prog 152 (sm_laws_eqClaimFoe N) := con_of (N := N) tabOK mixed (callOK_list (l := phiL_laws_eqClaimFoe N) trivial) (inl0_ok _) ok_laws_eqClaimFoe (by decide) fun a b => run_laws_eqClaimFoe N a b
def an_laws_eqClaimFoeS : Nat → Option Ann
  | 0 => some ⟨{ fr := [(0, Dir.keep), (1, Dir.keep), (5, Dir.keep)], bx := [], os := [] }, [(0, { fr := [], bx := [], os := [] })], { fr := [(4, Dir.keep)], bx := [], os := [] }⟩
  | _ => none
noncomputable def fi_laws_eqClaimFoeS : FI := ⟨Tryz.f87.results.toList, bodyOf Tryz.f87.body, Tryz.f87.ntmps, an_laws_eqClaimFoeS⟩
theorem ok_laws_eqClaimFoeS : FnOK Tryz.prog 87 fi_laws_eqClaimFoeS := ⟨⟨Tryz.f87, Tryz.func87, by kernel_rfl, rfl, rfl, by kernel_rfl⟩, by kernel_rfl⟩
def phiL_laws_eqClaimFoeS (N : Nat) : List (Nat × Summ) := [(152, sm_laws_eqClaimFoe N)]
def sg_laws_eqClaimFoeS : Summ := sigOf [.d (.slice tFoe) false, .d (.slice tFoe) false] false [.d (.bool) false]
def S_laws_eqClaimFoeS_0 (a : List Foe) (b : List Foe) (i5 : Int) : St := { fr := [(0, AV.w (V1.one (C.v tFoe.slice a))), (1, AV.w (V1.one (C.v tFoe.slice b))), (5, AV.w (V1.one (C.v tInt i5)))], H := [] }
noncomputable def E_laws_eqClaimFoeS (N : Nat) : Env := envOf (tabOf tabL) (tabS (phiL_laws_eqClaimFoeS N)) inl0 N fi_laws_eqClaimFoeS []
noncomputable def K_laws_eqClaimFoeS := (kFun (tabOf tabL) fi_laws_eqClaimFoeS.res (kT (ofDs [.bool]) sg_laws_eqClaimFoeS []))
noncomputable def its_laws_eqClaimFoeS_0 (N : Nat) (n : Nat) : St → Option Bool := fun S' => iter [] (annAt fi_laws_eqClaimFoeS 0) (code (E_laws_eqClaimFoeS N) (lpIn fi_laws_eqClaimFoeS.body 0 0) 0) n S' (contOf (E_laws_eqClaimFoeS N) fi_laws_eqClaimFoeS.body 0 0 K_laws_eqClaimFoeS)
noncomputable def it_laws_eqClaimFoeS_0 (N : Nat) (a : List Foe) (b : List Foe) (n : Nat) : Int → Option Bool := fun i5 => its_laws_eqClaimFoeS_0 N n (S_laws_eqClaimFoeS_0 a b i5)
theorem fe_laws_eqClaimFoeS_0 (N : Nat) : it_laws_eqClaimFoeS_0 N = laws_eqClaimFoeS_0 N := funext fun a => funext fun b => funext (lp_all (by kernel_rfl) fun n => by
    show _ = laws_eqClaimFoeS_0r N a b (it_laws_eqClaimFoeS_0 N a b n)
    kernel_rfl)
theorem run_laws_eqClaimFoeS (N : Nat) (a : List ((List UInt8) × (List UInt8))) (b : List ((List UInt8) × (List UInt8))) : runST (ofDs [.bool]) (tabOf tabL) (tabS (phiL_laws_eqClaimFoeS N)) inl0 N fi_laws_eqClaimFoeS sg_laws_eqClaimFoeS [⟨.slice tFoe, a⟩, ⟨.slice tFoe, b⟩] = F.laws_eqClaimFoeS N a b := by
    show _ = F.laws_eqClaimFoeSb N (F.laws_eqClaimFoeS_0 N) a b
    rw [← fe_laws_eqClaimFoeS_0 N]
    kernel_rfl
def sm_laws_eqClaimFoeS (N : Nat) : Summ := summOf [.d (.slice tFoe) false, .d (.slice tFoe) false] false [.d (.bool) false] [.bool] (F.laws_eqClaimFoeS N)
theorem con_laws_eqClaimFoeS (N : Nat) : Contract Tryz.prog 87 (sm_laws_eqClaimFoeS N) := con_of (N := N) tabOK mixed (callOK_list (l := phiL_laws_eqClaimFoeS N) (allc rfl (con_laws_eqClaimFoe N) trivial)) (inl0_ok _) ok_laws_eqClaimFoeS (by decide) fun a b => run_laws_eqClaimFoeS N a b
def an_laws_eqStringS : Nat → Option Ann
  | 0 => some ⟨{ fr := [(0, Dir.keep), (1, Dir.keep), (5, Dir.keep)], bx := [], os := [] }, [(0, { fr := [], bx := [], os := [] })], { fr := [(4, Dir.keep)], bx := [], os := [] }⟩
  | _ => none
noncomputable def fi_laws_eqStringS : FI := ⟨Tryz.f89.results.toList, bodyOf Tryz.f89.body, Tryz.f89.ntmps, an_laws_eqStringS⟩
theorem ok_laws_eqStringS : FnOK Tryz.prog 89 fi_laws_eqStringS := ⟨⟨Tryz.f89, Tryz.func89, by kernel_rfl, rfl, rfl, by kernel_rfl⟩, by kernel_rfl⟩
def phiL_laws_eqStringS (N : Nat) : List (Nat × Summ) := []
def sg_laws_eqStringS : Summ := sigOf [.d tTxts false, .d tTxts false] false [.d (.bool) false]
def S_laws_eqStringS_0 (a : List Txt) (b : List Txt) (i5 : Int) : St := { fr := [(0, AV.w (V1.one (C.v tTxts a))), (1, AV.w (V1.one (C.v tTxts b))), (5, AV.w (V1.one (C.v tInt i5)))], H := [] }
noncomputable def E_laws_eqStringS (N : Nat) : Env := envOf (tabOf tabL) (tabS (phiL_laws_eqStringS N)) inl0 N fi_laws_eqStringS []
noncomputable def K_laws_eqStringS := (kFun (tabOf tabL) fi_laws_eqStringS.res (kT (ofDs [.bool]) sg_laws_eqStringS []))
noncomputable def its_laws_eqStringS_0 (N : Nat) (n : Nat) : St → Option Bool := fun S' => iter [] (annAt fi_laws_eqStringS 0) (code (E_laws_eqStringS N) (lpIn fi_laws_eqStringS.body 0 0) 0) n S' (contOf (E_laws_eqStringS N) fi_laws_eqStringS.body 0 0 K_laws_eqStringS)
noncomputable def it_laws_eqStringS_0 (N : Nat) (a : List Txt) (b : List Txt) (n : Nat) : Int → Option Bool := fun i5 => its_laws_eqStringS_0 N n (S_laws_eqStringS_0 a b i5)
theorem fe_laws_eqStringS_0 (N : Nat) : it_laws_eqStringS_0 N = laws_eqStringS_0 N := funext fun a => funext fun b => funext (lp_all (by kernel_rfl) fun n => by
    show _ = laws_eqStringS_0r N a b (it_laws_eqStringS_0 N a b n)
    kernel_rfl)
theorem run_laws_eqStringS (N : Nat) (a : List (List UInt8)) (b : List (List UInt8)) : runST (ofDs [.bool]) (tabOf tabL) (tabS (phiL_laws_eqStringS N)) inl0 N fi_laws_eqStringS sg_laws_eqStringS [⟨tTxts, a⟩, ⟨tTxts, b⟩] = F.laws_eqStringS N a b := by
    show _ = F.laws_eqStringSb N (F.laws_eqStringS_0 N) a b
    rw [← fe_laws_eqStringS_0 N]
    kernel_rfl
def sm_laws_eqStringS (N : Nat) : Summ := summOf [.d tTxts false, .d tTxts false] false [.d (.bool) false] [.bool] (F.laws_eqStringS N)
theorem con_laws_eqStringS (N : Nat) : Contract Tryz.prog 89 (sm_laws_eqStringS N) := con_of (N := N) tabOK mixed (callOK_list (l := phiL_laws_eqStringS N) trivial) (inl0_ok _) ok_laws_eqStringS (by decide) fun a b => run_laws_eqStringS N a b
def an_laws_eqClaimSpot : Nat → Option Ann := fun _ => none
noncomputable def fi_laws_eqClaimSpot : FI := ⟨Tryz.f153.results.toList, bodyOf Tryz.f153.body, Tryz.f153.ntmps, an_laws_eqClaimSpot⟩
theorem ok_laws_eqClaimSpot : FnOK Tryz.prog 153 fi_laws_eqClaimSpot := ⟨⟨Tryz.f153, Tryz.func153, by kernel_rfl, rfl, rfl, by kernel_rfl⟩, by kernel_rfl⟩
def phiL_laws_eqClaimSpot (N : Nat) : List (Nat × Summ) := [(89, sm_laws_eqStringS N)]
def sg_laws_eqClaimSpot : Summ := sigOf [.d tSpot true, .d tSpot true] false [.d (.bool) false]
theorem run_laws_eqClaimSpot (N : Nat) (a : (List UInt8) × ((Int) × ((Int) × ((Int) × (List Txt))))) (b : (List UInt8) × ((Int) × ((Int) × ((Int) × (List Txt))))) : runST (ofDs [.bool]) (tabOf tabL) (tabS (phiL_laws_eqClaimSpot N)) inl0 N fi_laws_eqClaimSpot sg_laws_eqClaimSpot [⟨tSpot, a⟩, ⟨tSpot, b⟩] = F.laws_eqClaimSpot N a b := by kernel_rfl
def sm_laws_eqClaimSpot (N : Nat) : Summ := summOf [.d tSpot true, .d tSpot true] false [.d (.bool) false] [.bool] (F.laws_eqClaimSpot N)
theorem con_laws_eqClaimSpot (N : Nat) : Contract Tryz.prog 153 (sm_laws_eqClaimSpot N) := con_of (N := N) tabOK mixed (callOK_list (l := phiL_laws_eqClaimSpot N) (allc rfl (con_laws_eqStringS N) trivial)) (inl0_ok _) ok_laws_eqClaimSpot (by decide) fun a b => run_laws_eqClaimSpot N a b
def an_laws_eqClaimSpotS : Nat → Option Ann
  | 0 => some ⟨{ fr := [(0, Dir.keep), (1, Dir.keep), (5, Dir.keep)], bx := [], os := [] }, [(0, { fr := [], bx := [], os := [] })], { fr := [(4, Dir.keep)], bx := [], os := [] }⟩
  | _ => none
noncomputable def fi_laws_eqClaimSpotS : FI := ⟨Tryz.f88.results.toList, bodyOf Tryz.f88.body, Tryz.f88.ntmps, an_laws_eqClaimSpotS⟩
theorem ok_laws_eqClaimSpotS : FnOK Tryz.prog 88 fi_laws_eqClaimSpotS := ⟨⟨Tryz.f88, Tryz.func88, by kernel_rfl, rfl, rfl, by kernel_rfl⟩, by kernel_rfl⟩
def phiL_laws_eqClaimSpotS (N : Nat) : List (Nat × Summ) := [(153, sm_laws_eqClaimSpot N)]
def sg_laws_eqClaimSpotS : Summ := sigOf [.d (.slice tSpot) false, .d (.slice tSpot) false] false [.d (.bool) false]
def S_laws_eqClaimSpotS_0 (a : List Spot) (b : List Spot) (i5 : Int) : St := { fr := [(0, AV.w (V1.one (C.v tSpot.slice a))), (1, AV.w (V1.one (C.v tSpot.slice b))), (5, AV.w (V1.one (C.v tInt i5)))], H := [] }
noncomputable def E_laws_eqClaimSpotS (N : Nat) : Env := envOf (tabOf tabL) (tabS (phiL_laws_eqClaimSpotS N)) inl0 N fi_laws_eqClaimSpotS []
noncomputable def K_laws_eqClaimSpotS := (kFun (tabOf tabL) fi_laws_eqClaimSpotS.res (kT (ofDs [.bool]) sg_laws_eqClaimSpotS []))
noncomputable def its_laws_eqClaimSpotS_0 (N : Nat) (n : Nat) : St → Option Bool := fun S' => iter [] (annAt fi_laws_eqClaimSpotS 0) (code (E_laws_eqClaimSpotS N) (lpIn fi_laws_eqClaimSpotS.body 0 0) 0) n S' (contOf (E_laws_eqClaimSpotS N) fi_laws_eqClaimSpotS.body 0 0 K_laws_eqClaimSpotS)
noncomputable def it_laws_eqClaimSpotS_0 (N : Nat) (a : List Spot) (b : List Spot) (n : Nat) : Int → Option Bool := fun i5 => its_laws_eqClaimSpotS_0 N n (S_laws_eqClaimSpotS_0 a b i5)
theorem fe_laws_eqClaimSpotS_0 (N : Nat) : it_laws_eqClaimSpotS_0 N = laws_eqClaimSpotS_0 N := funext fun a => funext fun b => funext (lp_all (by kernel_rfl) fun n => by
    show _ = laws_eqClaimSpotS_0r N a b (it_laws_eqClaimSpotS_0 N a b n)
    kernel_rfl)
theorem run_laws_eqClaimSpotS (N : Nat) (a : List ((List UInt8) × ((Int) × ((Int) × ((Int) × (List Txt)))))) (b : List ((List UInt8) × ((Int) × ((Int) × ((Int) × (List Txt)))))) : runST (ofDs [.bool]) (tabOf tabL) (tabS (phiL_laws_eqClaimSpotS N)) inl0 N fi_laws_eqClaimSpotS sg_laws_eqClaimSpotS [⟨.slice tSpot, a⟩, ⟨.slice tSpot, b⟩] = F.laws_eqClaimSpotS N a b := by
    show _ = F.laws_eqClaimSpotSb N (F.laws_eqClaimSpotS_0 N) a b
    rw [← fe_laws_eqClaimSpotS_0 N]
    kernel_rfl
def sm_laws_eqClaimSpotS (N : Nat) : Summ := summOf [.d (.slice tSpot) false, .d (.slice tSpot) false] false [.d (.bool) false] [.bool] (F.laws_eqClaimSpotS N)
theorem con_laws_eqClaimSpotS (N : Nat) : Contract Tryz.prog 88 (sm_laws_eqClaimSpotS N) := con_of (N := N) tabOK mixed (callOK_list (l := phiL_laws_eqClaimSpotS N) (allc rfl (con_laws_eqClaimSpot N) trivial)) (inl0_ok _) ok_laws_eqClaimSpotS (by decide) fun a b => run_laws_eqClaimSpotS N a b
def an_laws_eqClaimUse : Nat → Option Ann := fun _ => none
noncomputable def fi_laws_eqClaimUse : FI := ⟨Tryz.f170.results.toList, bodyOf Tryz.f170.body, Tryz.f170.ntmps, an_laws_eqClaimUse⟩
theorem ok_laws_eqClaimUse : FnOK Tryz.prog 170 fi_laws_eqClaimUse := ⟨⟨Tryz.f170, Tryz.func170, by kernel_rfl, rfl, rfl, by kernel_rfl⟩, by kernel_rfl⟩
def phiL_laws_eqClaimUse (N : Nat) : List (Nat × Summ) := []
def sg_laws_eqClaimUse : Summ := sigOf [.d tUse true, .d tUse true] false [.d (.bool) false]
theorem run_laws_eqClaimUse (N : Nat) (a : (List UInt8) × ((Int) × (Int))) (b : (List UInt8) × ((Int) × (Int))) : runST (ofDs [.bool]) (tabOf tabL) (tabS (phiL_laws_eqClaimUse N)) inl0 N fi_laws_eqClaimUse sg_laws_eqClaimUse [⟨tUse, a⟩, ⟨tUse, b⟩] = F.laws_eqClaimUse N a b := by kernel_rfl
def sm_laws_eqClaimUse (N : Nat) : Summ := summOf [.d tUse true, .d tUse true] false [.d (.bool) false] [.bool] (F.laws_eqClaimUse N)
theorem con_laws_eqClaimUse (N : Nat) : Contract Tryz.prog 170 (sm_laws_eqClaimUse N) := con_of (N := N) tabOK mixed (callOK_list (l := phiL_laws_eqClaimUse N) trivial) (inl0_ok _) ok_laws_eqClaimUse (by decide) fun a b => run_laws_eqClaimUse N a b
def an_laws_eqClaimUseS : Nat → Option Ann
  | 0 => some ⟨{ fr := [(0, Dir.keep), (1, Dir.keep), (5, Dir.keep)], bx := [], os := [] }, [(0, { fr := [], bx := [], os := [] })], { fr := [(4, Dir.keep)], bx := [], os := [] }⟩
  | _ => none
noncomputable def fi_laws_eqClaimUseS : FI := ⟨Tryz.f119.results.toList, bodyOf Tryz.f119.body, Tryz.f119.ntmps, an_laws_eqClaimUseS⟩
theorem ok_laws_eqClaimUseS : FnOK Tryz.prog 119 fi_laws_eqClaimUseS := ⟨⟨Tryz.f119, Tryz.func119, by kernel_rfl, rfl, rfl, by kernel_rfl⟩, by kernel_rfl⟩
def phiL_laws_eqClaimUseS (N : Nat) : List (Nat × Summ) := [(170, sm_laws_eqClaimUse N)]
def sg_laws_eqClaimUseS : Summ := sigOf [.d (.slice tUse) false, .d (.slice tUse) false] false [.d (.bool) false]
def S_laws_eqClaimUseS_0 (a : List Use) (b : List Use) (i5 : Int) : St := { fr := [(0, AV.w (V1.one (C.v tUse.slice a))), (1, AV.w (V1.one (C.v tUse.slice b))), (5, AV.w (V1.one (C.v tInt i5)))], H := [] }
noncomputable def E_laws_eqClaimUseS (N : Nat) : Env := envOf (tabOf tabL) (tabS (phiL_laws_eqClaimUseS N)) inl0 N fi_laws_eqClaimUseS []
noncomputable def K_laws_eqClaimUseS := (kFun (tabOf tabL) fi_laws_eqClaimUseS.res (kT (ofDs [.bool]) sg_laws_eqClaimUseS []))
noncomputable def its_laws_eqClaimUseS_0 (N : Nat) (n : Nat) : St → Option Bool := fun S' => iter [] (annAt fi_laws_eqClaimUseS 0) (code (E_laws_eqClaimUseS N) (lpIn fi_laws_eqClaimUseS.body 0 0) 0) n S' (contOf (E_laws_eqClaimUseS N) fi_laws_eqClaimUseS.body 0 0 K_laws_eqClaimUseS)
noncomputable def it_laws_eqClaimUseS_0 (N : Nat) (a : List Use) (b : List Use) (n : Nat) : Int → Option Bool := fun i5 => its_laws_eqClaimUseS_0 N n (S_laws_eqClaimUseS_0 a b i5)
theorem fe_laws_eqClaimUseS_0 (N : Nat) : it_laws_eqClaimUseS_0 N = laws_eqClaimUseS_0 N := funext fun a => funext fun b => funext (lp_all (by kernel_rfl) fun n => by
    show _ = laws_eqClaimUseS_0r N a b (it_laws_eqClaimUseS_0 N a b n)
    kernel_rfl)
theorem run_laws_eqClaimUseS (N : Nat) (a : List ((List UInt8) × ((Int) × (Int)))) (b : List ((List UInt8) × ((Int) × (Int)))) : runST (ofDs [.bool]) (tabOf tabL) (tabS (phiL_laws_eqClaimUseS N)) inl0 N fi_laws_eqClaimUseS sg_laws_eqClaimUseS [⟨.slice tUse, a⟩, ⟨.slice tUse, b⟩] = F.laws_eqClaimUseS N a b := by
    show _ = F.laws_eqClaimUseSb N (F.laws_eqClaimUseS_0 N) a b
    rw [← fe_laws_eqClaimUseS_0 N]
    kernel_rfl
def sm_laws_eqClaimUseS (N : Nat) : Summ := summOf [.d (.slice tUse) false, .d (.slice tUse) false] false [.d (.bool) false] [.bool] (F.laws_eqClaimUseS N)
theorem con_laws_eqClaimUseS (N : Nat) : Contract Tryz.prog 119 (sm_laws_eqClaimUseS N) := con_of (N := N) tabOK mixed (callOK_list (l := phiL_laws_eqClaimUseS N) (allc rfl (con_laws_eqClaimUse N) trivial)) (inl0_ok _) ok_laws_eqClaimUseS (by decide) fun a b => run_laws_eqClaimUseS N a b
def an_laws_eqClaimWant : Nat → Option Ann := fun _ => none
noncomputable def fi_laws_eqClaimWant : FI := ⟨Tryz.f41.results.toList, bodyOf Tryz.f41.body, Tryz.f41.ntmps, an_laws_eqClaimWant⟩
theorem ok_laws_eqClaimWant : FnOK Tryz.prog 41 fi_laws_eqClaimWant := ⟨⟨Tryz.f41, Tryz.func41, by kernel_rfl, rfl, rfl, by kernel_rfl⟩, by kernel_rfl⟩
def phiL_laws_eqClaimWant (N : Nat) : List (Nat × Summ) := [(89, sm_laws_eqStringS N), (119, sm_laws_eqClaimUseS N)]
def sg_laws_eqClaimWant : Summ := sigOf [.d tWant true, .d tWant true] false [.d (.bool) false]
theorem run_laws_eqClaimWant (N : Nat) (a : (Int) × ((Int) × ((List Txt) × ((List ((List UInt8) × ((Int) × (Int)))) × ((List Txt) × (List Txt)))))) (b : (Int) × ((Int) × ((List Txt) × ((List ((List UInt8) × ((Int) × (Int)))) × ((List Txt) × (List Txt)))))) : runST (ofDs [.bool]) (tabOf tabL) (tabS (phiL_laws_eqClaimWant N)) inl0 N fi_laws_eqClaimWant sg_laws_eqClaimWant [⟨tWant, a⟩, ⟨tWant, b⟩] = F.laws_eqClaimWant N a b := by kernel_rfl
def sm_laws_eqClaimWant (N : Nat) : Summ := summOf [.d tWant true, .d tWant true] false [.d (.bool) false] [.bool] (F.laws_eqClaimWant N)
theorem con_laws_eqClaimWant (N : Nat) : Contract Tryz.prog 41 (sm_laws_eqClaimWant N) := con_of (N := N) tabOK mixed (callOK_list (l := phiL_laws_eqClaimWant N) (allc rfl (con_laws_eqStringS N) (allc rfl (con_laws_eqClaimUseS N) trivial))) (inl0_ok _) ok_laws_eqClaimWant (by decide) fun a b => run_laws_eqClaimWant N a b
def an_laws_eqClaimPart : Nat → Option Ann := fun _ => none
noncomputable def fi_laws_eqClaimPart : FI := ⟨Tryz.f154.results.toList, bodyOf Tryz.f154.body, Tryz.f154.ntmps, an_laws_eqClaimPart⟩
theorem ok_laws_eqClaimPart : FnOK Tryz.prog 154 fi_laws_eqClaimPart := ⟨⟨Tryz.f154, Tryz.func154, by kernel_rfl, rfl, rfl, by kernel_rfl⟩, by kernel_rfl⟩
def phiL_laws_eqClaimPart (N : Nat) : List (Nat × Summ) := [(41, sm_laws_eqClaimWant N)]
def sg_laws_eqClaimPart : Summ := sigOf [.d tPart true, .d tPart true] false [.d (.bool) false]
theorem run_laws_eqClaimPart (N : Nat) (a : ((Int) × ((Int) × ((List Txt) × ((List ((List UInt8) × ((Int) × (Int)))) × ((List Txt) × (List Txt)))))) × (Bool)) (b : ((Int) × ((Int) × ((List Txt) × ((List ((List UInt8) × ((Int) × (Int)))) × ((List Txt) × (List Txt)))))) × (Bool)) : runST (ofDs [.bool]) (tabOf tabL) (tabS (phiL_laws_eqClaimPart N)) inl0 N fi_laws_eqClaimPart sg_laws_eqClaimPart [⟨tPart, a⟩, ⟨tPart, b⟩] = F.laws_eqClaimPart N a b := by kernel_rfl
def sm_laws_eqClaimPart (N : Nat) : Summ := summOf [.d tPart true, .d tPart true] false [.d (.bool) false] [.bool] (F.laws_eqClaimPart N)
theorem con_laws_eqClaimPart (N : Nat) : Contract Tryz.prog 154 (sm_laws_eqClaimPart N) := con_of (N := N) tabOK mixed (callOK_list (l := phiL_laws_eqClaimPart N) (allc rfl (con_laws_eqClaimWant N) trivial)) (inl0_ok _) ok_laws_eqClaimPart (by decide) fun a b => run_laws_eqClaimPart N a b
def an_laws_eqClaimPartS : Nat → Option Ann
  | 0 => some ⟨{ fr := [(0, Dir.keep), (1, Dir.keep), (5, Dir.keep)], bx := [], os := [] }, [(0, { fr := [], bx := [], os := [] })], { fr := [(4, Dir.keep)], bx := [], os := [] }⟩
  | _ => none
noncomputable def fi_laws_eqClaimPartS : FI := ⟨Tryz.f90.results.toList, bodyOf Tryz.f90.body, Tryz.f90.ntmps, an_laws_eqClaimPartS⟩
theorem ok_laws_eqClaimPartS : FnOK Tryz.prog 90 fi_laws_eqClaimPartS := ⟨⟨Tryz.f90, Tryz.func90, by kernel_rfl, rfl, rfl, by kernel_rfl⟩, by kernel_rfl⟩
def phiL_laws_eqClaimPartS (N : Nat) : List (Nat × Summ) := [(154, sm_laws_eqClaimPart N)]
def sg_laws_eqClaimPartS : Summ := sigOf [.d (.slice tPart) false, .d (.slice tPart) false] false [.d (.bool) false]
def S_laws_eqClaimPartS_0 (a : List Part) (b : List Part) (i5 : Int) : St := { fr := [(0, AV.w (V1.one (C.v tPart.slice a))), (1, AV.w (V1.one (C.v tPart.slice b))), (5, AV.w (V1.one (C.v tInt i5)))], H := [] }
noncomputable def E_laws_eqClaimPartS (N : Nat) : Env := envOf (tabOf tabL) (tabS (phiL_laws_eqClaimPartS N)) inl0 N fi_laws_eqClaimPartS []
noncomputable def K_laws_eqClaimPartS := (kFun (tabOf tabL) fi_laws_eqClaimPartS.res (kT (ofDs [.bool]) sg_laws_eqClaimPartS []))
noncomputable def its_laws_eqClaimPartS_0 (N : Nat) (n : Nat) : St → Option Bool := fun S' => iter [] (annAt fi_laws_eqClaimPartS 0) (code (E_laws_eqClaimPartS N) (lpIn fi_laws_eqClaimPartS.body 0 0) 0) n S' (contOf (E_laws_eqClaimPartS N) fi_laws_eqClaimPartS.body 0 0 K_laws_eqClaimPartS)
noncomputable def it_laws_eqClaimPartS_0 (N : Nat) (a : List Part) (b : List Part) (n : Nat) : Int → Option Bool := fun i5 => its_laws_eqClaimPartS_0 N n (S_laws_eqClaimPartS_0 a b i5)
theorem fe_laws_eqClaimPartS_0 (N : Nat) : it_laws_eqClaimPartS_0 N = laws_eqClaimPartS_0 N := funext fun a => funext fun b => funext (lp_all (by kernel_rfl) fun n => by
    show _ = laws_eqClaimPartS_0r N a b (it_laws_eqClaimPartS_0 N a b n)
    kernel_rfl)
theorem run_laws_eqClaimPartS (N : Nat) (a : List (((Int) × ((Int) × ((List Txt) × ((List ((List UInt8) × ((Int) × (Int)))) × ((List Txt) × (List Txt)))))) × (Bool))) (b : List (((Int) × ((Int) × ((List Txt) × ((List ((List UInt8) × ((Int) × (Int)))) × ((List Txt) × (List Txt)))))) × (Bool))) : runST (ofDs [.bool]) (tabOf tabL) (tabS (phiL_laws_eqClaimPartS N)) inl0 N fi_laws_eqClaimPartS sg_laws_eqClaimPartS [⟨.slice tPart, a⟩, ⟨.slice tPart, b⟩] = F.laws_eqClaimPartS N a b := by
    show _ = F.laws_eqClaimPartSb N (F.laws_eqClaimPartS_0 N) a b
    rw [← fe_laws_eqClaimPartS_0 N]
    kernel_rfl
def sm_laws_eqClaimPartS (N : Nat) : Summ := summOf [.d (.slice tPart) false, .d (.slice tPart) false] false [.d (.bool) false] [.bool] (F.laws_eqClaimPartS N)
theorem con_laws_eqClaimPartS (N : Nat) : Contract Tryz.prog 90 (sm_laws_eqClaimPartS N) := con_of (N := N) tabOK mixed (callOK_list (l := phiL_laws_eqClaimPartS N) (allc rfl (con_laws_eqClaimPart N) trivial)) (inl0_ok _) ok_laws_eqClaimPartS (by decide) fun a b => run_laws_eqClaimPartS N a b
def an_laws_eqClaimBook : Nat → Option Ann := fun _ => none
noncomputable def fi_laws_eqClaimBook : FI := ⟨Tryz.f26.results.toList, bodyOf Tryz.f26.body, Tryz.f26.ntmps, an_laws_eqClaimBook⟩
theorem ok_laws_eqClaimBook : FnOK Tryz.prog 26 fi_laws_eqClaimBook := ⟨⟨Tryz.f26, Tryz.func26, by kernel_rfl, rfl, rfl, by kernel_rfl⟩, by kernel_rfl⟩
def phiL_laws_eqClaimBook (N : Nat) : List (Nat × Summ) := [(87, sm_laws_eqClaimFoeS N), (88, sm_laws_eqClaimSpotS N), (89, sm_laws_eqStringS N), (90, sm_laws_eqClaimPartS N)]
def sg_laws_eqClaimBook : Summ := sigOf [.d tBook true, .d tBook true] false [.d (.bool) false]
theorem run_laws_eqClaimBook (N : Nat) (a : (List ((List UInt8) × (List UInt8))) × ((List ((List UInt8) × ((Int) × ((Int) × ((Int) × (List Txt)))))) × ((List Txt) × ((List (((Int) × ((Int) × ((List Txt) × ((List ((List UInt8) × ((Int) × (Int)))) × ((List Txt) × (List Txt)))))) × (Bool))) × (Int))))) (b : (List ((List UInt8) × (List UInt8))) × ((List ((List UInt8) × ((Int) × ((Int) × ((Int) × (List Txt)))))) × ((List Txt) × ((List (((Int) × ((Int) × ((List Txt) × ((List ((List UInt8) × ((Int) × (Int)))) × ((List Txt) × (List Txt)))))) × (Bool))) × (Int))))) : runST (ofDs [.bool]) (tabOf tabL) (tabS (phiL_laws_eqClaimBook N)) inl0 N fi_laws_eqClaimBook sg_laws_eqClaimBook [⟨tBook, a⟩, ⟨tBook, b⟩] = F.laws_eqClaimBook N a b := by kernel_rfl
def sm_laws_eqClaimBook (N : Nat) : Summ := summOf [.d tBook true, .d tBook true] false [.d (.bool) false] [.bool] (F.laws_eqClaimBook N)
theorem con_laws_eqClaimBook (N : Nat) : Contract Tryz.prog 26 (sm_laws_eqClaimBook N) := con_of (N := N) tabOK mixed (callOK_list (l := phiL_laws_eqClaimBook N) (allc rfl (con_laws_eqClaimFoeS N) (allc rfl (con_laws_eqClaimSpotS N) (allc rfl (con_laws_eqStringS N) (allc rfl (con_laws_eqClaimPartS N) trivial))))) (inl0_ok _) ok_laws_eqClaimBook (by decide) fun a b => run_laws_eqClaimBook N a b
def an_laws_markText : Nat → Option Ann
  | 0 => some ⟨{ fr := [(0, Dir.keep), (3, Dir.keep)], bx := [], os := [] }, [(0, { fr := [(3, Dir.keep)], bx := [], os := [] })], ⟨[], [], []⟩⟩
  | _ => none
noncomputable def fi_laws_markText : FI := ⟨Tryz.f155.results.toList, bodyOf Tryz.f155.body, Tryz.f155.ntmps, an_laws_markText⟩
theorem ok_laws_markText : FnOK Tryz.prog 155 fi_laws_markText := ⟨⟨Tryz.f155, Tryz.func155, by kernel_rfl, rfl, rfl, by kernel_rfl⟩, by kernel_rfl⟩
def phiL_laws_markText (N : Nat) : List (Nat × Summ) := []
def sg_laws_markText : Summ := sigOf [.d tInt false] false [.d (.str) false]
def S_laws_markText_0 (k0_1 : Int) (out3 : Txt) : St := { fr := [(0, AV.w (V1.one (C.v tInt k0_1))), (3, AV.w (V1.one (C.v Ty.str out3)))], H := [] }
noncomputable def E_laws_markText (N : Nat) : Env := envOf (tabOf tabL) (tabS (phiL_laws_markText N)) inl0 N fi_laws_markText []
noncomputable def K_laws_markText := (kFun (tabOf tabL) fi_laws_markText.res (kT (ofDs [.str]) sg_laws_markText []))
noncomputable def its_laws_markText_0 (N : Nat) (n : Nat) : St → Option Txt := fun S' => iter [] (annAt fi_laws_markText 0) (code (E_laws_markText N) (lpIn fi_laws_markText.body 0 0) 0) n S' (contOf (E_laws_markText N) fi_laws_markText.body 0 0 K_laws_markText)
noncomputable def it_laws_markText_0 (N : Nat) (n : Nat) : Int → Txt → Option Txt := fun k0_1 out3 => its_laws_markText_0 N n (S_laws_markText_0 k0_1 out3)
theorem fe_laws_markText_0 (N : Nat) : it_laws_markText_0 N = laws_markText_0 N := funext (lp_all (by kernel_rfl) fun n => by
    show _ = laws_markText_0r N (it_laws_markText_0 N n)
    kernel_rfl)
theorem run_laws_markText (N : Nat) (k0 : Int) : runST (ofDs [.str]) (tabOf tabL) (tabS (phiL_laws_markText N)) inl0 N fi_laws_markText sg_laws_markText [⟨tInt, k0⟩] = F.laws_markText N k0 := by
    show _ = F.laws_markTextb N (F.laws_markText_0 N) k0
    rw [← fe_laws_markText_0 N]
    kernel_rfl
def sm_laws_markText (N : Nat) : Summ := summOf [.d tInt false] false [.d (.str) false] [.str] (F.laws_markText N)
theorem con_laws_markText (N : Nat) : Contract Tryz.prog 155 (sm_laws_markText N) := con_of (N := N) tabOK mixed (callOK_list (l := phiL_laws_markText N) trivial) (inl0_ok _) ok_laws_markText (by decide) fun k0 => run_laws_markText N k0
def an_laws_markClaimFoeS : Nat → Option Ann
  | 0 => some ⟨{ fr := [(0, Dir.keep), (1, Dir.keep), (5, Dir.keep)], bx := [], os := [400000] }, [(0, { fr := [(1, Dir.keep)], bx := [], os := [400000] })], ⟨[], [], []⟩⟩
  | _ => none
noncomputable def fi_laws_markClaimFoeS : FI := ⟨Tryz.f91.results.toList, bodyOf Tryz.f91.body, Tryz.f91.ntmps, an_laws_markClaimFoeS⟩
theorem ok_laws_markClaimFoeS : FnOK Tryz.prog 91 fi_laws_markClaimFoeS := ⟨⟨Tryz.f91, Tryz.func91, by kernel_rfl, rfl, rfl, by kernel_rfl⟩, by kernel_rfl⟩
def phiL_laws_markClaimFoeS (N : Nat) : List (Nat × Summ) := [(155, sm_laws_markText N)]
def sg_laws_markClaimFoeS : Summ := sigOf [.ow 106 tFoe none, .d tInt false] true [.d tInt false]
def S_laws_markClaimFoeS_0 (k1 : Int) (i5 : Int) (apa : List Foe) : St := { fr := [(0, AV.w (V1.one (C.arr 400000))), (1, AV.w (V1.one (C.v tInt k1))), (5, AV.w (V1.one (C.v tInt i5)))], H := [(400000, Ob.arr 106 tFoe apa)] }
noncomputable def E_laws_markClaimFoeS (N : Nat) : Env := envOf (tabOf tabL) (tabS (phiL_laws_markClaimFoeS N)) inl0 N fi_laws_markClaimFoeS [400000]
noncomputable def K_laws_markClaimFoeS := (kFun (tabOf tabL) fi_laws_markClaimFoeS.res (kT (ofDs [tInt, .slice tFoe]) sg_laws_markClaimFoeS [(400000, .ow 106 tFoe none)]))
noncomputable def its_laws_markClaimFoeS_0 (N : Nat) (n : Nat) : St → Option (Int × List Foe) := fun S' => iter [400000] (annAt fi_laws_markClaimFoeS 0) (code (E_laws_markClaimFoeS N) (lpIn fi_laws_markClaimFoeS.body 0 0) 0) n S' (contOf (E_laws_markClaimFoeS N) fi_laws_markClaimFoeS.body 0 0 K_laws_markClaimFoeS)
noncomputable def it_laws_markClaimFoeS_0 (N : Nat) (n : Nat) : Int → Int → (List Foe) → Option (Int × List Foe) := fun k1 i5 apa => its_laws_markClaimFoeS_0 N n (S_laws_markClaimFoeS_0 k1 i5 apa)
theorem fe_laws_markClaimFoeS_0 (N : Nat) : it_laws_markClaimFoeS_0 N = laws_markClaimFoeS_0 N := funext (lp_all (by kernel_rfl) fun n => by
    show _ = laws_markClaimFoeS_0r N (it_laws_markClaimFoeS_0 N n)
    kernel_rfl)
theorem run_laws_markClaimFoeS (N : Nat) (a : List ((List UInt8) × (List UInt8))) (k0 : Int) : runST (ofDs [tInt, .slice tFoe]) (tabOf tabL) (tabS (phiL_laws_markClaimFoeS N)) inl0 N fi_laws_markClaimFoeS sg_laws_markClaimFoeS [⟨.slice tFoe, a⟩, ⟨tInt, k0⟩] = F.laws_markClaimFoeS N a k0 := by
    show _ = F.laws_markClaimFoeSb N (F.laws_markClaimFoeS_0 N) a k0
    rw [← fe_laws_markClaimFoeS_0 N]
    kernel_rfl
def sm_laws_markClaimFoeS (N : Nat) : Summ := summOf [.ow 106 tFoe none, .d tInt false] true [.d tInt false] [tInt, .slice tFoe] (F.laws_markClaimFoeS N)
theorem con_laws_markClaimFoeS (N : Nat) : Contract Tryz.prog 91 (sm_laws_markClaimFoeS N) := con_of (N := N) tabOK mixed (callOK_list (l := phiL_laws_markClaimFoeS N) (allc rfl (con_laws_markText N) trivial)) (inl0_ok _) ok_laws_markClaimFoeS (by decide) fun a k0 => run_laws_markClaimFoeS N a k0
def an_laws_markStringS : Nat → Option Ann
  | 0 => some ⟨{ fr := [(0, Dir.keep), (1, Dir.keep), (5, Dir.keep)], bx := [], os := [400000] }, [(0, { fr := [(1, Dir.keep)], bx := [], os := [400000] })], ⟨[], [], []⟩⟩
  | _ => none
noncomputable def fi_laws_markStringS : FI := ⟨Tryz.f93.results.toList, bodyOf Tryz.f93.body, Tryz.f93.ntmps, an_laws_markStringS⟩
theorem ok_laws_markStringS : FnOK Tryz.prog 93 fi_laws_markStringS := ⟨⟨Tryz.f93, Tryz.func93, by kernel_rfl, rfl, rfl, by kernel_rfl⟩, by kernel_rfl⟩
def phiL_laws_markStringS (N : Nat) : List (Nat × Summ) := [(155, sm_laws_markText N)]
def sg_laws_markStringS : Summ := sigOf [.ow 9 (.str) none, .d tInt false] true [.d tInt false]
def S_laws_markStringS_0 (k1 : Int) (i5 : Int) (apa : List Txt) : St := { fr := [(0, AV.w (V1.one (C.arr 400000))), (1, AV.w (V1.one (C.v tInt k1))), (5, AV.w (V1.one (C.v tInt i5)))], H := [(400000, Ob.arr 9 Ty.str apa)] }
noncomputable def E_laws_markStringS (N : Nat) : Env := envOf (tabOf tabL) (tabS (phiL_laws_markStringS N)) inl0 N fi_laws_markStringS [400000]
noncomputable def K_laws_markStringS := (kFun (tabOf tabL) fi_laws_markStringS.res (kT (ofDs [tInt, tTxts]) sg_laws_markStringS [(400000, .ow 9 (.str) none)]))
noncomputable def its_laws_markStringS_0 (N : Nat) (n : Nat) : St → Option (Int × List Txt) := fun S' => iter [400000] (annAt fi_laws_markStringS 0) (code (E_laws_markStringS N) (lpIn fi_laws_markStringS.body 0 0) 0) n S' (contOf (E_laws_markStringS N) fi_laws_markStringS.body 0 0 K_laws_markStringS)
noncomputable def it_laws_markStringS_0 (N : Nat) (n : Nat) : Int → Int → (List Txt) → Option (Int × List Txt) := fun k1 i5 apa => its_laws_markStringS_0 N n (S_laws_markStringS_0 k1 i5 apa)
theorem fe_laws_markStringS_0 (N : Nat) : it_laws_markStringS_0 N = laws_markStringS_0 N := funext (lp_all (by kernel_rfl) fun n => by
    show _ = laws_markStringS_0r N (it_laws_markStringS_0 N n)
    kernel_rfl)
theorem run_laws_markStringS (N : Nat) (a : List (List UInt8)) (k0 : Int) : runST (ofDs [tInt, tTxts]) (tabOf tabL) (tabS (phiL_laws_markStringS N)) inl0 N fi_laws_markStringS sg_laws_markStringS [⟨tTxts, a⟩, ⟨tInt, k0⟩] = F.laws_markStringS N a k0 := by
    show _ = F.laws_markStringSb N (F.laws_markStringS_0 N) a k0
    rw [← fe_laws_markStringS_0 N]
    kernel_rfl
def sm_laws_markStringS (N : Nat) : Summ := summOf [.ow 9 (.str) none, .d tInt false] true [.d tInt false] [tInt, tTxts] (F.laws_markStringS N)
theorem con_laws_markStringS (N : Nat) : Contract Tryz.prog 93 (sm_laws_markStringS N) := con_of (N := N) tabOK mixed (callOK_list (l := phiL_laws_markStringS N) (allc rfl (con_laws_markText N) trivial)) (inl0_ok _) ok_laws_markStringS (by decide) fun a k0 => run_laws_markStringS N a k0
def an_laws_markClaimSpotS : Nat → Option Ann
  | 0 => some ⟨{ fr := [(0, Dir.keep), (1, Dir.keep), (5, Dir.keep)], bx := [], os := [400000] }, [(0, { fr := [(1, Dir.keep)], bx := [], os := [400000] })], ⟨[], [], []⟩⟩
  | _ => none
noncomputable def fi_laws_markClaimSpotS : FI := ⟨Tryz.f92.results.toList, bodyOf Tryz.f92.body, Tryz.f92.ntmps, an_laws_markClaimSpotS⟩
theorem ok_laws_markClaimSpotS : FnOK Tryz.prog 92 fi_laws_markClaimSpotS := ⟨⟨Tryz.f92, Tryz.func92, by kernel_rfl, rfl, rfl, by kernel_rfl⟩, by kernel_rfl⟩
def phiL_laws_markClaimSpotS (N : Nat) : List (Nat × Summ) := [(155, sm_laws_markText N), (93, sm_laws_markStringS N)]
def sg_laws_markClaimSpotS : Summ := sigOf [.ow 34 tSpot (some [9]), .d tInt false] true [.d tInt false]
def S_laws_markClaimSpotS_0 (k1 : Int) (i5 : Int) (apa : List Spot) : St := { fr := [(0, AV.w (V1.one (C.arr 400000))), (1, AV.w (V1.one (C.v tInt k1))), (5, AV.w (V1.one (C.v tInt i5)))], H := [(400000, Ob.arr 34 tSpot apa (Dp.yes [9]))] }
noncomputable def E_laws_markClaimSpotS (N : Nat) : Env := envOf (tabOf tabL) (tabS (phiL_laws_markClaimSpotS N)) inl0 N fi_laws_markClaimSpotS [400000]
noncomputable def K_laws_markClaimSpotS := (kFun (tabOf tabL) fi_laws_markClaimSpotS.res (kT (ofDs [tInt, .slice tSpot]) sg_laws_markClaimSpotS [(400000, .ow 34 tSpot (some [9]))]))
noncomputable def its_laws_markClaimSpotS_0 (N : Nat) (n : Nat) : St → Option (Int × List Spot) := fun S' => iter [400000] (annAt fi_laws_markClaimSpotS 0) (code (E_laws_markClaimSpotS N) (lpIn fi_laws_markClaimSpotS.body 0 0) 0) n S' (contOf (E_laws_markClaimSpotS N) fi_laws_markClaimSpotS.body 0 0 K_laws_markClaimSpotS)
noncomputable def it_laws_markClaimSpotS_0 (N : Nat) (n : Nat) : Int → Int → (List Spot) → Option (Int × List Spot) := fun k1 i5 apa => its_laws_markClaimSpotS_0 N n (S_laws_markClaimSpotS_0 k1 i5 apa)
theorem fe_laws_markClaimSpotS_0 (N : Nat) : it_laws_markClaimSpotS_0 N = laws_markClaimSpotS_0 N := funext (lp_all (by kernel_rfl) fun n => by
    show _ = laws_markClaimSpotS_0r N (it_laws_markClaimSpotS_0 N n)
    kernel_rfl)
theorem run_laws_markClaimSpotS (N : Nat) (a : List ((List UInt8) × ((Int) × ((Int) × ((Int) × (List Txt)))))) (k0 : Int) : runST (ofDs [tInt, .slice tSpot]) (tabOf tabL) (tabS (phiL_laws_markClaimSpotS N)) inl0 N fi_laws_markClaimSpotS sg_laws_markClaimSpotS [⟨.slice tSpot, a⟩, ⟨tInt, k0⟩] = F.laws_markClaimSpotS N a k0 := by
    show _ = F.laws_markClaimSpotSb N (F.laws_markClaimSpotS_0 N) a k0
    rw [← fe_laws_markClaimSpotS_0 N]
    kernel_rfl
def sm_laws_markClaimSpotS (N : Nat) : Summ := summOf [.ow 34 tSpot (some [9]), .d tInt false] true [.d tInt false] [tInt, .slice tSpot] (F.laws_markClaimSpotS N)
theorem con_laws_markClaimSpotS (N : Nat) : Contract Tryz.prog 92 (sm_laws_markClaimSpotS N) := con_of (N := N) tabOK mixed (callOK_list (l := phiL_laws_markClaimSpotS N) (allc rfl (con_laws_markText N) (allc rfl (con_laws_markStringS N) trivial))) (inl0_ok _) ok_laws_markClaimSpotS (by decide) fun a k0 => run_laws_markClaimSpotS N a k0
def an_laws_markClaimUseS : Nat → Option Ann
  | 0 => some ⟨{ fr := [(0, Dir.keep), (1, Dir.keep), (5, Dir.keep)], bx := [], os := [400000] }, [(0, { fr := [(1, Dir.keep)], bx := [], os := [400000] })], ⟨[], [], []⟩⟩
  | _ => none
noncomputable def fi_laws_markClaimUseS : FI := ⟨Tryz.f127.results.toList, bodyOf Tryz.f127.body, Tryz.f127.ntmps, an_laws_markClaimUseS⟩
theorem ok_laws_markClaimUseS : FnOK Tryz.prog 127 fi_laws_markClaimUseS := ⟨⟨Tryz.f127, Tryz.func127, by kernel_rfl, rfl, rfl, by kernel_rfl⟩, by kernel_rfl⟩
def phiL_laws_markClaimUseS (N : Nat) : List (Nat × Summ) := [(155, sm_laws_markText N)]
def sg_laws_markClaimUseS : Summ := sigOf [.ow 82 tUse none, .d tInt false] true [.d tInt false]
def S_laws_markClaimUseS_0 (k1 : Int) (i5 : Int) (apa : List Use) : St := { fr := [(0, AV.w (V1.one (C.arr 400000))), (1, AV.w (V1.one (C.v tInt k1))), (5, AV.w (V1.one (C.v tInt i5)))], H := [(400000, Ob.arr 82 tUse apa)] }
noncomputable def E_laws_markClaimUseS (N : Nat) : Env := envOf (tabOf tabL) (tabS (phiL_laws_markClaimUseS N)) inl0 N fi_laws_markClaimUseS [400000]
noncomputable def K_laws_markClaimUseS := (kFun (tabOf tabL) fi_laws_markClaimUseS.res (kT (ofDs [tInt, .slice tUse]) sg_laws_markClaimUseS [(400000, .ow 82 tUse none)]))
noncomputable def its_laws_markClaimUseS_0 (N : Nat) (n : Nat) : St → Option (Int × List Use) := fun S' => iter [400000] (annAt fi_laws_markClaimUseS 0) (code (E_laws_markClaimUseS N) (lpIn fi_laws_markClaimUseS.body 0 0) 0) n S' (contOf (E_laws_markClaimUseS N) fi_laws_markClaimUseS.body 0 0 K_laws_markClaimUseS)
noncomputable def it_laws_markClaimUseS_0 (N : Nat) (n : Nat) : Int → Int → (List Use) → Option (Int × List Use) := fun k1 i5 apa => its_laws_markClaimUseS_0 N n (S_laws_markClaimUseS_0 k1 i5 apa)
theorem fe_laws_markClaimUseS_0 (N : Nat) : it_laws_markClaimUseS_0 N = laws_markClaimUseS_0 N := funext (lp_all (by kernel_rfl) fun n => by
    show _ = laws_markClaimUseS_0r N (it_laws_markClaimUseS_0 N n)
    kernel_rfl)
theorem run_laws_markClaimUseS (N : Nat) (a : List ((List UInt8) × ((Int) × (Int)))) (k0 : Int) : runST (ofDs [tInt, .slice tUse]) (tabOf tabL) (tabS (phiL_laws_markClaimUseS N)) inl0 N fi_laws_markClaimUseS sg_laws_markClaimUseS [⟨.slice tUse, a⟩, ⟨tInt, k0⟩] = F.laws_markClaimUseS N a k0 := by
    show _ = F.laws_markClaimUseSb N (F.laws_markClaimUseS_0 N) a k0
    rw [← fe_laws_markClaimUseS_0 N]
    kernel_rfl
def sm_laws_markClaimUseS (N : Nat) : Summ := summOf [.ow 82 tUse none, .d tInt false] true [.d tInt false] [tInt, .slice tUse] (F.laws_markClaimUseS N)
theorem con_laws_markClaimUseS (N : Nat) : Contract Tryz.prog 127 (sm_laws_markClaimUseS N) := con_of (N := N) tabOK mixed (callOK_list (l := phiL_laws_markClaimUseS N) (allc rfl (con_laws_markText N) trivial)) (inl0_ok _) ok_laws_markClaimUseS (by decide) fun a k0 => run_laws_markClaimUseS N a k0
def an_laws_markClaimPartS : Nat → Option Ann
  | 0 => some ⟨{ fr := [(0, Dir.keep), (1, Dir.keep), (5, Dir.keep)], bx := [], os := [400000] }, [(0, { fr := [(1, Dir.keep)], bx := [], os := [400000] })], ⟨[], [], []⟩⟩
  | _ => none
noncomputable def fi_laws_markClaimPartS : FI := ⟨Tryz.f94.results.toList, bodyOf Tryz.f94.body, Tryz.f94.ntmps, an_laws_markClaimPartS⟩
theorem ok_laws_markClaimPartS : FnOK Tryz.prog 94 fi_laws_markClaimPartS := ⟨⟨Tryz.f94, Tryz.func94, by kernel_rfl, rfl, rfl, by kernel_rfl⟩, by kernel_rfl⟩
def phiL_laws_markClaimPartS (N : Nat) : List (Nat × Summ) := [(93, sm_laws_markStringS N), (127, sm_laws_markClaimUseS N)]
def sg_laws_markClaimPartS : Summ := sigOf [.ow 94 tPart (some [9, 82, 9, 9]), .d tInt false] true [.d tInt false]
def S_laws_markClaimPartS_0 (k1 : Int) (i5 : Int) (apa : List Part) : St := { fr := [(0, AV.w (V1.one (C.arr 400000))), (1, AV.w (V1.one (C.v tInt k1))), (5, AV.w (V1.one (C.v tInt i5)))], H := [(400000, Ob.arr 94 tPart apa (Dp.yes [9, 82, 9, 9]))] }
noncomputable def E_laws_markClaimPartS (N : Nat) : Env := envOf (tabOf tabL) (tabS (phiL_laws_markClaimPartS N)) inl0 N fi_laws_markClaimPartS [400000]
noncomputable def K_laws_markClaimPartS := (kFun (tabOf tabL) fi_laws_markClaimPartS.res (kT (ofDs [tInt, .slice tPart]) sg_laws_markClaimPartS [(400000, .ow 94 tPart (some [9, 82, 9, 9]))]))
noncomputable def its_laws_markClaimPartS_0 (N : Nat) (n : Nat) : St → Option (Int × List Part) := fun S' => iter [400000] (annAt fi_laws_markClaimPartS 0) (code (E_laws_markClaimPartS N) (lpIn fi_laws_markClaimPartS.body 0 0) 0) n S' (contOf (E_laws_markClaimPartS N) fi_laws_markClaimPartS.body 0 0 K_laws_markClaimPartS)
noncomputable def it_laws_markClaimPartS_0 (N : Nat) (n : Nat) : Int → Int → (List Part) → Option (Int × List Part) := fun k1 i5 apa => its_laws_markClaimPartS_0 N n (S_laws_markClaimPartS_0 k1 i5 apa)
theorem fe_laws_markClaimPartS_0 (N : Nat) : it_laws_markClaimPartS_0 N = laws_markClaimPartS_0 N := funext (lp_all (by kernel_rfl) fun n => by
    show _ = laws_markClaimPartS_0r N (it_laws_markClaimPartS_0 N n)
    kernel_rfl)
theorem run_laws_markClaimPartS (N : Nat) (a : List (((Int) × ((Int) × ((List Txt) × ((List ((List UInt8) × ((Int) × (Int)))) × ((List Txt) × (List Txt)))))) × (Bool))) (k0 : Int) : runST (ofDs [tInt, .slice tPart]) (tabOf tabL) (tabS (phiL_laws_markClaimPartS N)) inl0 N fi_laws_markClaimPartS sg_laws_markClaimPartS [⟨.slice tPart, a⟩, ⟨tInt, k0⟩] = F.laws_markClaimPartS N a k0 := by
    show _ = F.laws_markClaimPartSb N (F.laws_markClaimPartS_0 N) a k0
    rw [← fe_laws_markClaimPartS_0 N]
    kernel_rfl
def sm_laws_markClaimPartS (N : Nat) : Summ := summOf [.ow 94 tPart (some [9, 82, 9, 9]), .d tInt false] true [.d tInt false] [tInt, .slice tPart] (F.laws_markClaimPartS N)
theorem con_laws_markClaimPartS (N : Nat) : Contract Tryz.prog 94 (sm_laws_markClaimPartS N) := con_of (N := N) tabOK mixed (callOK_list (l := phiL_laws_markClaimPartS N) (allc rfl (con_laws_markStringS N) (allc rfl (con_laws_markClaimUseS N) trivial))) (inl0_ok _) ok_laws_markClaimPartS (by decide) fun a k0 => run_laws_markClaimPartS N a k0
def an_laws_markClaimBook : Nat → Option Ann := fun _ => none
noncomputable def fi_laws_markClaimBook : FI := ⟨Tryz.f27.results.toList, bodyOf Tryz.f27.body, Tryz.f27.ntmps, an_laws_markClaimBook⟩
theorem ok_laws_markClaimBook : FnOK Tryz.prog 27 fi_laws_markClaimBook := ⟨⟨Tryz.f27, Tryz.func27, by kernel_rfl, rfl, rfl, by kernel_rfl⟩, by kernel_rfl⟩
def phiL_laws_markClaimBook (N : Nat) : List (Nat × Summ) := [(91, sm_laws_markClaimFoeS N), (92, sm_laws_markClaimSpotS N), (93, sm_laws_markStringS N), (94, sm_laws_markClaimPartS N)]
def sg_laws_markClaimBook : Summ := sigOf [.sp [.ow 106 tFoe none, .ow 34 tSpot (some [9]), .ow 9 (.str) none, .ow 94 tPart (some [9, 82, 9, 9]), .dd tInt], .d tInt false] true [.d tInt false]
theorem run_laws_markClaimBook (N : Nat) (a0 : List ((List UInt8) × (List UInt8))) (a1 : List ((List UInt8) × ((Int) × ((Int) × ((Int) × (List Txt)))))) (a2 : List (List UInt8)) (a3 : List (((Int) × ((Int) × ((List Txt) × ((List ((List UInt8) × ((Int) × (Int)))) × ((List Txt) × (List Txt)))))) × (Bool))) (a4 : Int) (k0 : Int) : runST (ofDs [tInt, .slice tFoe, .slice tSpot, tTxts, .slice tPart]) (tabOf tabL) (tabS (phiL_laws_markClaimBook N)) inl0 N fi_laws_markClaimBook sg_laws_markClaimBook [⟨.slice tFoe, a0⟩, ⟨.slice tSpot, a1⟩, ⟨tTxts, a2⟩, ⟨.slice tPart, a3⟩, ⟨tInt, a4⟩, ⟨tInt, k0⟩] = F.laws_markClaimBook N a0 a1 a2 a3 a4 k0 := by kernel_rfl
def sm_laws_markClaimBook (N : Nat) : Summ := summOf [.sp [.ow 106 tFoe none, .ow 34 tSpot (some [9]), .ow 9 (.str) none, .ow 94 tPart (some [9, 82, 9, 9]), .dd tInt], .d tInt false] true [.d tInt false] [tInt, .slice tFoe, .slice tSpot, tTxts, .slice tPart] (F.laws_markClaimBook N)
theorem con_laws_markClaimBook (N : Nat) : Contract Tryz.prog 27 (sm_laws_markClaimBook N) := con_of (N := N) tabOK mixed (callOK_list (l := phiL_laws_markClaimBook N) (allc rfl (con_laws_markClaimFoeS N) (allc rfl (con_laws_markClaimSpotS N) (allc rfl (con_laws_markStringS N) (allc rfl (con_laws_markClaimPartS N) trivial))))) (inl0_ok _) ok_laws_markClaimBook (by decide) fun a0 a1 a2 a3 a4 k0 => run_laws_markClaimBook N a0 a1 a2 a3 a4 k0
end
end Go.MC


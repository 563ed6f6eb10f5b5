/- Part 4 of the texts of the claim FnExactClaimSessionCardSaid: an interpreter of the translated code over data, proved sound; the contracts of the functions; the same in plain words. -/
import Derived.Test.YtaihjhaabnfenaaGreatDoormFnExactClaimSessionCardSaid2
import Derived.Test.YtaihjhaabnfenaaGreatDoormFnExactClaimSessionCardSaid3
set_option linter.unusedVariables false
set_option linter.unusedSimpArgs false
set_option maxRecDepth 100000
namespace Go.MC
open Go.Proofs Go.MC.F
noncomputable section
abbrev kp : Dir := .keep
abbrev vv (t : Ty) (x : t.den) : AV := .w (.one (.v t x))
abbrev vb (n : Nat) : AV := .w (.one (.pb n 0))
abbrev va (n : Nat) : AV := .w (.one (.arr n))
def aj3 : Nat → Option Ann
 | 0 => some ⟨⟨[(0, kp), (1, kp), (5, .own 700005 9 Ty.str), (6, kp), (7, kp)], [], []⟩, [(0, ⟨[(0, kp), (5, .own 700005 9 Ty.str), (6, kp)], [], []⟩)], ⟨[], [], []⟩⟩
 | _ => none
noncomputable def lG : FI := ⟨Tryz.f8.results.toList, aK Tryz.f8.body, Tryz.f8.ntmps, aj3⟩
theorem ajk : bI Tryz.prog 8 lG := ⟨⟨Tryz.f8, Tryz.func8, by kernel_rfl, rfl, rfl, by kernel_rfl⟩, by kernel_rfl⟩
def wW (N : Nat) : List (Nat × ax) := []
def Qr : ax := a_ [.d (.str) false, .d XN false] true [.d ai false]
def aa2 (s : Txt) (at0 : Int) (from6 : Int) (i7 : Int) (out5a : List Txt) : St := ⟨[(0, vv Ty.str s), (1, vv XN at0), (5, va 700005), (6, vv aj from6), (7, vv aj i7)], [(700005, .arr 9 Ty.str out5a)]⟩
noncomputable def aad (N : Nat) : Env := bQ (ay aG) (aU (wW N)) aX N lG []
noncomputable def aps := (dE (ay aG) lG.res (kT (aT [ai]) Qr []))
noncomputable def RN (N : Nat) (n : Nat) : St → Option (List Txt) := fun S' => iter [] (bH lG 0) (code (aad N) (bY lG.body 0 0) 0) n S' (bg (aad N) lG.body 0 0 aps)
noncomputable def G7 (N : Nat) (s : Txt) (at0 : Int) (n : Nat) : Int → Int → (List Txt) → Option (List Txt) := fun from6 i7 out5a => RN N n (aa2 s at0 from6 i7 out5a)
theorem VG (N : Nat) : G7 N = uH N := funext fun s => funext fun at0 => funext (bz (by kernel_rfl) fun n => by
 show _ = og N s at0 (G7 N s at0 n)
 kernel_rfl)
theorem abw (N : Nat) (s : Txt) (at0 : Int) : aV (aT [ai]) (ay aG) (aU (wW N)) aX N lG Qr [⟨.str, s⟩, ⟨XN, at0⟩] = F.Dz N s at0 := by
 show _ = F.ah8 N (F.uH N) s at0
 rw [← VG N]
 kernel_rfl
def y7 (N : Nat) : ax := aF [.d (.str) false, .d XN false] true [.d ai false] [ai] (F.Dz N)
theorem Bj (N : Nat) : au Tryz.prog 8 (y7 N) := aJ (N := N) bf mixed (ah (l := wW N) trivial) (aC _) ajk (by decide) fun s at0 => abw N s at0
def al2 : Nat → Option Ann := fun _ => none
noncomputable def XX : FI := ⟨Tryz.f62.results.toList, aK Tryz.f62.body, Tryz.f62.ntmps, al2⟩
theorem ams : bI Tryz.prog 62 XX := ⟨⟨Tryz.f62, Tryz.func62, by kernel_rfl, rfl, rfl, by kernel_rfl⟩, by kernel_rfl⟩
def ML (N : Nat) : List (Nat × ax) := []
def anr : ax := a_ [.d ai false] false [.own ai false [(9, none)]]
theorem ajM (N : Nat) (list : List Txt) : aV (aT [ai]) (ay aG) (aU (ML N)) aX N XX anr [⟨ai, list⟩] = F.Oc N list := by kernel_rfl
def OA (N : Nat) : ax := aF [.d ai false] false [.own ai false [(9, none)]] [ai] (F.Oc N)
theorem QD (N : Nat) : au Tryz.prog 62 (OA N) := aJ (N := N) bf mixed (ah (l := ML N) trivial) (aC _) ams (by decide) fun list => ajM N list
def alk : Nat → Option Ann := fun _ => none
noncomputable def Xp : FI := ⟨Tryz.f60.results.toList, aK Tryz.f60.body, Tryz.f60.ntmps, alk⟩
theorem apc : bI Tryz.prog 60 Xp := ⟨⟨Tryz.f60, Tryz.func60, by kernel_rfl, rfl, rfl, by kernel_rfl⟩, by kernel_rfl⟩
def KH (N : Nat) : List (Nat × ax) := [(62, OA N)]
def amL : ax := a_ [.d aO true] false [.own aO true [(9, none), (101, none), (9, none), (9, none)]]
theorem afP (N : Nat) (w : Want) : aV (aT [aO]) (ay aG) (aU (KH N)) aX N Xp amL [⟨aO, w⟩] = F.acE N w := by kernel_rfl
def Pv (N : Nat) : ax := aF [.d aO true] false [.own aO true [(9, none), (101, none), (9, none), (9, none)]] [aO] (F.acE N)
theorem Qi (N : Nat) : au Tryz.prog 60 (Pv N) := aJ (N := N) bf mixed (ah (l := KH N) (aN rfl (QD N) trivial)) (aC _) apc (by decide) fun w => afP N w
def ao6 : Nat → Option Ann
 | 0 => some ⟨⟨[(1, kp), (2, kp), (3, kp), (4, kp)], [(1, [kp, kp, kp, kp, kp]), (2, [kp, kp, kp, kp, kp]), (3, [.own 1000300 44 bT, Dir.dow 1000301 46 [9] aZ, .own 1000302 9 Ty.str, kp, kp])], []⟩, [(0, ⟨[(1, kp), (2, kp), (3, kp)], [(1, [kp, kp, kp, kp, kp]), (2, [kp, kp, kp, kp, kp]), (3, [.own 1000300 44 bT, Dir.dow 1000301 46 [9] aZ, .own 1000302 9 Ty.str, kp, kp])], []⟩)], ⟨[], [], []⟩⟩
 | 2 => some ⟨⟨[(1, kp), (2, kp), (3, kp), (6, kp)], [(1, [kp, kp, kp, kp, kp]), (2, [kp, kp, kp, kp, kp]), (3, [.own 1000300 44 bT, Dir.dow 1000301 46 [9] aZ, .own 1000302 9 Ty.str, Dir.dow 1000303 91 [9, 101, 9, 9] bi, kp])], []⟩, [(2, ⟨[(2, kp), (3, kp)], [(2, [kp, kp, kp, kp, kp]), (3, [.own 1000300 44 bT, Dir.dow 1000301 46 [9] aZ, .own 1000302 9 Ty.str, Dir.dow 1000303 91 [9, 101, 9, 9] bi, kp])], []⟩)], ⟨[], [], []⟩⟩
 | _ => none
noncomputable def jF : FI := ⟨Tryz.f25.results.toList, aK Tryz.f25.body, Tryz.f25.ntmps, ao6⟩
theorem am0 : bI Tryz.prog 25 jF := ⟨⟨Tryz.f25, Tryz.func25, by kernel_rfl, rfl, rfl, by kernel_rfl⟩, by kernel_rfl⟩
def Bc (N : Nat) : List (Nat × ax) := [(62, OA N), (60, Pv N)]
def Z9 : ax := a_ [.d aA true] false [.own aA true [(44, none), (46, (some [9])), (9, none), (91, (some [9, 101, 9, 9]))]]
def aif (b : Book) (r : List Txt) (t2c4 : Int) (x3c0a : List Foe) (x3c1a : List aP) (i6 : Int) (x3c3a : List Part) : St := ⟨[(1, vb 1), (2, vb 2), (3, vb 3), (6, vv aj i6)], [(1, .box [.v bT.slice b.1, .v aZ.slice b.2.1, .v ai b.2.2.1, .v bi.slice b.2.2.2.1, .v aj b.2.2.2.2]), (2, .box [.emp, .emp, .emp, .emp, .v aj t2c4]), (3, .box [.arr 1000300, .arr 1000301, .arr 1000302, .arr 1000303, .v aj b.2.2.2.2]), (1000300, .arr 44 bT x3c0a), (1000301, .arr 46 aZ x3c1a (Dp.yes [9])), (1000302, .arr 9 Ty.str r), (1000303, .arr 91 bi x3c3a (Dp.yes [9, 101, 9, 9]))]⟩
def ais (b : Book) (r : List Txt) (t2c4 : Int) (x3c0a : List Foe) (i4 : Int) (x3c1a : List aP) : St := ⟨[(1, vb 1), (2, vb 2), (3, vb 3), (4, vv aj i4)], [(1, .box [.v bT.slice b.1, .v aZ.slice b.2.1, .v ai b.2.2.1, .v bi.slice b.2.2.2.1, .v aj b.2.2.2.2]), (2, .box [.emp, .emp, .emp, .emp, .v aj t2c4]), (3, .box [.arr 1000300, .arr 1000301, .arr 1000302, .emp, .v aj b.2.2.2.2]), (1000300, .arr 44 bT x3c0a), (1000301, .arr 46 aZ x3c1a (Dp.yes [9])), (1000302, .arr 9 Ty.str r)]⟩
noncomputable def NK (N : Nat) : Env := bQ (ay aG) (aU (Bc N)) aX N jF []
noncomputable def aju := (dE (ay aG) jF.res (kT (aT [aA]) Z9 []))
noncomputable def U6 (N : Nat) (n : Nat) : St → Option Book := fun S' => iter [] (bH jF 2) (code (NK N) (bY jF.body 0 2) 2) n S' (bg (NK N) jF.body 0 2 aju)
noncomputable def zV (N : Nat) (b : Book) (r : List Txt) (t2c4 : Int) (x3c0a : List Foe) (x3c1a : List aP) (n : Nat) : Int → (List Part) → Option Book := fun i6 x3c3a => U6 N n (aif b r t2c4 x3c0a x3c1a i6 x3c3a)
theorem aa6 (N : Nat) : zV N = IR N := funext fun b => funext fun r => funext fun t2c4 => funext fun x3c0a => funext fun x3c1a => funext (bz (by kernel_rfl) fun n => by
 show _ = En N b r t2c4 x3c0a x3c1a (zV N b r t2c4 x3c0a x3c1a n)
 kernel_rfl)
noncomputable def V4 (N : Nat) (n : Nat) : St → Option Book := fun S' => iter [] (bH jF 0) (code (NK N) (bY jF.body 0 0) 0) n S' (bg (NK N) jF.body 0 0 aju)
noncomputable def JC (N : Nat) (b : Book) (r : List Txt) (t2c4 : Int) (x3c0a : List Foe) (n : Nat) : Int → (List aP) → Option Book := fun i4 x3c1a => V4 N n (ais b r t2c4 x3c0a i4 x3c1a)
theorem acr (N : Nat) : JC N = WJ N := funext fun b => funext fun r => funext fun t2c4 => funext fun x3c0a => funext (bz (by kernel_rfl) fun n => by
 show _ = EJ N (IR N) b r t2c4 x3c0a (JC N b r t2c4 x3c0a n)
 rw [show IR N = zV N from (aa6 N).symm]
 kernel_rfl)
theorem aef (N : Nat) (b : Book) : aV (aT [aA]) (ay aG) (aU (Bc N)) aX N jF Z9 [⟨aA, b⟩] = F.yD N b := by
 show _ = F.acY N (F.WJ N) b
 rw [← acr N]
 kernel_rfl
def qE (N : Nat) : ax := aF [.d aA true] false [.own aA true [(44, none), (46, (some [9])), (9, none), (91, (some [9, 101, 9, 9]))]] [aA] (F.yD N)
theorem nN (N : Nat) : au Tryz.prog 25 (qE N) := aJ (N := N) bf mixed (ah (l := Bc N) (aN rfl (QD N) (aN rfl (Qi N) trivial))) (aC _) am0 (by decide) fun b => aef N b
def aiX : Nat → Option Ann := fun _ => none
noncomputable def Sl : FI := ⟨Tryz.f65.results.toList, aK Tryz.f65.body, Tryz.f65.ntmps, aiX⟩
theorem af8 : bI Tryz.prog 65 Sl := ⟨⟨Tryz.f65, Tryz.func65, by kernel_rfl, rfl, rfl, by kernel_rfl⟩, by kernel_rfl⟩
def IL (N : Nat) : List (Nat × ax) := []
def ake : ax := a_ [.d aj false, .d aj false, .d aj false] false [.d (.bool) false]
theorem abN (N : Nat) (n : Int) (low : Int) (high : Int) : aV (aT [.bool]) (ay aG) (aU (IL N)) aX N Sl ake [⟨aj, n⟩, ⟨aj, low⟩, ⟨aj, high⟩] = F.iD N n low high := by kernel_rfl
def jQ (N : Nat) : ax := aF [.d aj false, .d aj false, .d aj false] false [.d (.bool) false] [.bool] (F.iD N)
theorem jy (N : Nat) : au Tryz.prog 65 (jQ N) := aJ (N := N) bf mixed (ah (l := IL N) trivial) (aC _) af8 (by decide) fun n low high => abN N n low high
def alX : Nat → Option Ann
 | 0 => some ⟨⟨[(0, kp), (3, kp)], [], []⟩, [(0, ⟨[], [], []⟩)], ⟨[(2, kp)], [], []⟩⟩
 | _ => none
noncomputable def ql : FI := ⟨Tryz.f140.results.toList, aK Tryz.f140.body, Tryz.f140.ntmps, alX⟩
theorem aop : bI Tryz.prog 140 ql := ⟨⟨Tryz.f140, Tryz.func140, by kernel_rfl, rfl, rfl, by kernel_rfl⟩, by kernel_rfl⟩
def AQ (N : Nat) : List (Nat × ax) := [(65, jQ N)]
def ZI : ax := a_ [.d (.str) false] false [.d (.bool) false]
def aeH (s : Txt) (i3 : Int) : St := ⟨[(0, vv Ty.str s), (3, vv aj i3)], []⟩
noncomputable def akg (N : Nat) : Env := bQ (ay aG) (aU (AQ N)) aX N ql []
noncomputable def aq5 := (dE (ay aG) ql.res (kT (aT [.bool]) ZI []))
noncomputable def UZ (N : Nat) (n : Nat) : St → Option Bool := fun S' => iter [] (bH ql 0) (code (akg N) (bY ql.body 0 0) 0) n S' (bg (akg N) ql.body 0 0 aq5)
noncomputable def Nu (N : Nat) (s : Txt) (n : Nat) : Int → Option Bool := fun i3 => UZ N n (aeH s i3)
theorem ab5 (N : Nat) : Nu N = Wp N := funext fun s => funext (bz (by kernel_rfl) fun n => by
 show _ = EX N s (Nu N s n)
 kernel_rfl)
theorem ajp (N : Nat) (s : Txt) : aV (aT [.bool]) (ay aG) (aU (AQ N)) aX N ql ZI [⟨.str, s⟩] = F.Oj N s := by
 show _ = F.ahB N (F.Wp N) s
 rw [← ab5 N]
 kernel_rfl
def zy (N : Nat) : ax := aF [.d (.str) false] false [.d (.bool) false] [.bool] (F.Oj N)
theorem yM (N : Nat) : au Tryz.prog 140 (zy N) := aJ (N := N) bf mixed (ah (l := AQ N) (aN rfl (jy N) trivial)) (aC _) aop (by decide) fun s => ajp N s
def anH : Nat → Option Ann
 | 0 => some ⟨⟨[(1, kp), (3, kp)], [(1, [kp, kp, kp, kp, kp])], []⟩, [(0, ⟨[], [], []⟩)], ⟨[(2, kp)], [], []⟩⟩
 | _ => none
noncomputable def qO : FI := ⟨Tryz.f96.results.toList, aK Tryz.f96.body, Tryz.f96.ntmps, anH⟩
theorem aoc : bI Tryz.prog 96 qO := ⟨⟨Tryz.f96, Tryz.func96, by kernel_rfl, rfl, rfl, by kernel_rfl⟩, by kernel_rfl⟩
def Cj (N : Nat) : List (Nat × ax) := [(140, zy N)]
def Zg : ax := a_ [.d aA true] false [.d (.bool) false]
def aiz (b : Book) (i3 : Int) : St := ⟨[(1, vb 1), (3, vv aj i3)], [(1, .box [.v bT.slice b.1, .v aZ.slice b.2.1, .v ai b.2.2.1, .v bi.slice b.2.2.2.1, .v aj b.2.2.2.2])]⟩
noncomputable def ahw (N : Nat) : Env := bQ (ay aG) (aU (Cj N)) aX N qO []
noncomputable def ap1 := (dE (ay aG) qO.res (kT (aT [.bool]) Zg []))
noncomputable def Uc (N : Nat) (n : Nat) : St → Option Bool := fun S' => iter [] (bH qO 0) (code (ahw N) (bY qO.body 0 0) 0) n S' (bg (ahw N) qO.body 0 0 ap1)
noncomputable def LM (N : Nat) (b : Book) (n : Nat) : Int → Option Bool := fun i3 => Uc N n (aiz b i3)
theorem ab2 (N : Nat) : LM N = WA N := funext fun b => funext (bz (by kernel_rfl) fun n => by
 show _ = FC N b (LM N b n)
 kernel_rfl)
theorem ai5 (N : Nat) (b : Book) : aV (aT [.bool]) (ay aG) (aU (Cj N)) aX N qO Zg [⟨aA, b⟩] = F.adI N b := by
 show _ = F.ags N (F.WA N) b
 rw [← ab2 N]
 kernel_rfl
def XI (N : Nat) : ax := aF [.d aA true] false [.d (.bool) false] [.bool] (F.adI N)
theorem agf (N : Nat) : au Tryz.prog 96 (XI N) := aJ (N := N) bf mixed (ah (l := Cj N) (aN rfl (yM N) trivial)) (aC _) aoc (by decide) fun b => ai5 N b
def amg : Nat → Option Ann
 | 0 => some ⟨⟨[(0, kp), (5, kp)], [], []⟩, [(0, ⟨[], [], []⟩)], ⟨[(4, kp)], [], []⟩⟩
 | _ => none
noncomputable def pI : FI := ⟨Tryz.f97.results.toList, aK Tryz.f97.body, Tryz.f97.ntmps, amg⟩
theorem aod : bI Tryz.prog 97 pI := ⟨⟨Tryz.f97, Tryz.func97, by kernel_rfl, rfl, rfl, by kernel_rfl⟩, by kernel_rfl⟩
def Bi (N : Nat) : List (Nat × ax) := [(140, zy N)]
def Y0 : ax := a_ [.d ai false, .d aj false] false [.d (.bool) false]
def aki (list : List Txt) (i5 : Int) : St := ⟨[(0, vv ai list), (5, vv aj i5)], []⟩
noncomputable def agu (N : Nat) : Env := bQ (ay aG) (aU (Bi N)) aX N pI []
noncomputable def aqk := (dE (ay aG) pI.res (kT (aT [.bool]) Y0 []))
noncomputable def TC (N : Nat) (n : Nat) : St → Option Bool := fun S' => iter [] (bH pI 0) (code (agu N) (bY pI.body 0 0) 0) n S' (bg (agu N) pI.body 0 0 aqk)
noncomputable def Ld (N : Nat) (list : List Txt) (n : Nat) : Int → Option Bool := fun i5 => TC N n (aki list i5)
theorem aaJ (N : Nat) : Ld N = TQ N := funext fun list => funext (bz (by kernel_rfl) fun n => by
 show _ = EN N list (Ld N list n)
 kernel_rfl)
theorem ahn (N : Nat) (list : List Txt) (most : Int) : aV (aT [.bool]) (ay aG) (aU (Bi N)) aX N pI Y0 [⟨ai, list⟩, ⟨aj, most⟩] = F.Jp N list most := by
 show _ = F.aea N (F.TQ N) list most
 rw [← aaJ N]
 kernel_rfl
def Fv (N : Nat) : ax := aF [.d ai false, .d aj false] false [.d (.bool) false] [.bool] (F.Jp N)
theorem F6 (N : Nat) : au Tryz.prog 97 (Fv N) := aJ (N := N) bf mixed (ah (l := Bi N) (aN rfl (yM N) trivial)) (aC _) aod (by decide) fun list most => ahn N list most
def aoV : Nat → Option Ann
 | 0 => some ⟨⟨[(1, kp), (2, kp), (3, kp), (7, kp)], [(3, [kp, kp, kp, kp, kp])], []⟩, [(0, ⟨[], [], []⟩)], ⟨[(6, kp)], [], []⟩⟩
 | _ => none
noncomputable def qp : FI := ⟨Tryz.f174.results.toList, aK Tryz.f174.body, Tryz.f174.ntmps, aoV⟩
theorem anb : bI Tryz.prog 174 qp := ⟨⟨Tryz.f174, Tryz.func174, by kernel_rfl, rfl, rfl, by kernel_rfl⟩, by kernel_rfl⟩
def Cf (N : Nat) : List (Nat × ax) := []
def YJ : ax := a_ [.d aA true, .d (.str) false, .d (.str) false] false [.d (.bool) false]
def ag9 (b : Book) (x : Txt) (y : Txt) (i7 : Int) : St := ⟨[(1, vv Ty.str x), (2, vv Ty.str y), (3, vb 3), (7, vv aj i7)], [(3, .box [.v bT.slice b.1, .v aZ.slice b.2.1, .v ai b.2.2.1, .v bi.slice b.2.2.2.1, .v aj b.2.2.2.2])]⟩
noncomputable def ahG (N : Nat) : Env := bQ (ay aG) (aU (Cf N)) aX N qp []
noncomputable def aq7 := (dE (ay aG) qp.res (kT (aT [.bool]) YJ []))
noncomputable def TP (N : Nat) (n : Nat) : St → Option Bool := fun S' => iter [] (bH qp 0) (code (ahG N) (bY qp.body 0 0) 0) n S' (bg (ahG N) qp.body 0 0 aq7)
noncomputable def JD (N : Nat) (b : Book) (x : Txt) (y : Txt) (n : Nat) : Int → Option Bool := fun i7 => TP N n (ag9 b x y i7)
theorem acM (N : Nat) : JD N = UL N := funext fun b => funext fun x => funext fun y => funext (bz (by kernel_rfl) fun n => by
 show _ = EG N b x y (JD N b x y n)
 kernel_rfl)
theorem ajY (N : Nat) (b : Book) (x : Txt) (y : Txt) : aV (aT [.bool]) (ay aG) (aU (Cf N)) aX N qp YJ [⟨aA, b⟩, ⟨.str, x⟩, ⟨.str, y⟩] = F.aiR N b x y := by
 show _ = F.ae5 N (F.UL N) b x y
 rw [← acM N]
 kernel_rfl
def X_ (N : Nat) : ax := aF [.d aA true, .d (.str) false, .d (.str) false] false [.d (.bool) false] [.bool] (F.aiR N)
theorem ae1 (N : Nat) : au Tryz.prog 174 (X_ N) := aJ (N := N) bf mixed (ah (l := Cf N) trivial) (aC _) anb (by decide) fun b x y => ajY N b x y
def amc : Nat → Option Ann
 | 0 => some ⟨⟨[(1, kp), (2, kp), (3, kp), (7, kp)], [(3, [kp, kp, kp, kp, kp])], []⟩, [(0, ⟨[], [], []⟩)], ⟨[(6, kp)], [], []⟩⟩
 | _ => none
noncomputable def pG : FI := ⟨Tryz.f141.results.toList, aK Tryz.f141.body, Tryz.f141.ntmps, amc⟩
theorem aoo : bI Tryz.prog 141 pG := ⟨⟨Tryz.f141, Tryz.func141, by kernel_rfl, rfl, rfl, by kernel_rfl⟩, by kernel_rfl⟩
def Ag (N : Nat) : List (Nat × ax) := [(174, X_ N)]
def ZU : ax := a_ [.d aA true, .d (.str) false, .d ai false] false [.d (.bool) false]
def adH (b : Book) (stuff : Txt) (may : List Txt) (i7 : Int) : St := ⟨[(1, vv Ty.str stuff), (2, vv ai may), (3, vb 3), (7, vv aj i7)], [(3, .box [.v bT.slice b.1, .v aZ.slice b.2.1, .v ai b.2.2.1, .v bi.slice b.2.2.2.1, .v aj b.2.2.2.2])]⟩
noncomputable def adT (N : Nat) : Env := bQ (ay aG) (aU (Ag N)) aX N pG []
noncomputable def apU := (dE (ay aG) pG.res (kT (aT [.bool]) ZU []))
noncomputable def Vp (N : Nat) (n : Nat) : St → Option Bool := fun S' => iter [] (bH pG 0) (code (adT N) (bY pG.body 0 0) 0) n S' (bg (adT N) pG.body 0 0 apU)
noncomputable def Kq (N : Nat) (b : Book) (stuff : Txt) (may : List Txt) (n : Nat) : Int → Option Bool := fun i7 => Vp N n (adH b stuff may i7)
theorem abG (N : Nat) : Kq N = TW N := funext fun b => funext fun stuff => funext fun may => funext (bz (by kernel_rfl) fun n => by
 show _ = E5 N b stuff may (Kq N b stuff may n)
 kernel_rfl)
theorem ad8 (N : Nat) (b : Book) (stuff : Txt) (may : List Txt) : aV (aT [.bool]) (ay aG) (aU (Ag N)) aX N pG ZU [⟨aA, b⟩, ⟨.str, stuff⟩, ⟨ai, may⟩] = F.aaE N b stuff may := by
 show _ = F.ai9 N (F.TW N) b stuff may
 rw [← abG N]
 kernel_rfl
def Oo (N : Nat) : ax := aF [.d aA true, .d (.str) false, .d ai false] false [.d (.bool) false] [.bool] (F.aaE N)
theorem Si (N : Nat) : au Tryz.prog 141 (Oo N) := aJ (N := N) bf mixed (ah (l := Ag N) (aN rfl (ae1 N) trivial)) (aC _) aoo (by decide) fun b stuff may => ad8 N b stuff may
def alN : Nat → Option Ann
 | 0 => some ⟨⟨[(2, kp), (3, kp), (5, kp)], [(2, [kp, kp, kp, kp, kp]), (3, [kp, kp, kp, kp, kp])], []⟩, [(0, ⟨[], [], []⟩)], ⟨[(4, kp)], [], []⟩⟩
 | _ => none
noncomputable def qZ : FI := ⟨Tryz.f98.results.toList, aK Tryz.f98.body, Tryz.f98.ntmps, alN⟩
theorem aoI : bI Tryz.prog 98 qZ := ⟨⟨Tryz.f98, Tryz.func98, by kernel_rfl, rfl, rfl, by kernel_rfl⟩, by kernel_rfl⟩
def CG (N : Nat) : List (Nat × ax) := [(140, zy N), (65, jQ N), (97, Fv N), (141, Oo N)]
def Z7 : ax := a_ [.d aA true, .d aZ true] false [.d (.bool) false]
def ahY (b : Book) (s : aP) (i5 : Int) : St := ⟨[(2, vb 2), (3, vb 3), (5, vv aj i5)], [(2, .box [.v bT.slice b.1, .v aZ.slice b.2.1, .v ai b.2.2.1, .v bi.slice b.2.2.2.1, .v aj b.2.2.2.2]), (3, .box [.v Ty.str s.1, .v aj s.2.1, .v aj s.2.2.1, .v aj s.2.2.2.1, .v ai s.2.2.2.2])]⟩
noncomputable def adZ (N : Nat) : Env := bQ (ay aG) (aU (CG N)) aX N qZ []
noncomputable def apJ := (dE (ay aG) qZ.res (kT (aT [.bool]) Z7 []))
noncomputable def TA (N : Nat) (n : Nat) : St → Option Bool := fun S' => iter [] (bH qZ 0) (code (adZ N) (bY qZ.body 0 0) 0) n S' (bg (adZ N) qZ.body 0 0 apJ)
noncomputable def KC (N : Nat) (b : Book) (s : aP) (n : Nat) : Int → Option Bool := fun i5 => TA N n (ahY b s i5)
theorem abo (N : Nat) : KC N = PQ N := funext fun b => funext fun s => funext (bz (by kernel_rfl) fun n => by
 show _ = EC N b s (KC N b s n)
 kernel_rfl)
theorem adn (N : Nat) (b : Book) (s : aP) : aV (aT [.bool]) (ay aG) (aU (CG N)) aX N qZ Z7 [⟨aA, b⟩, ⟨aZ, s⟩] = F.agL N b s := by
 show _ = F.ac3 N (F.PQ N) b s
 rw [← abo N]
 kernel_rfl
def ZQ (N : Nat) : ax := aF [.d aA true, .d aZ true] false [.d (.bool) false] [.bool] (F.agL N)
theorem agi (N : Nat) : au Tryz.prog 98 (ZQ N) := aJ (N := N) bf mixed (ah (l := CG N) (aN rfl (yM N) (aN rfl (jy N) (aN rfl (F6 N) (aN rfl (Si N) trivial))))) (aC _) aoI (by decide) fun b s => adn N b s
def apv : Nat → Option Ann
 | 0 => some ⟨⟨[(1, kp), (3, kp)], [(1, [kp, kp, kp, kp, kp, kp])], []⟩, [(0, ⟨[], [], []⟩)], ⟨[(2, kp)], [], []⟩⟩
 | _ => none
noncomputable def oH : FI := ⟨Tryz.f143.results.toList, aK Tryz.f143.body, Tryz.f143.ntmps, apv⟩
theorem alv : bI Tryz.prog 143 oH := ⟨⟨Tryz.f143, Tryz.func143, by kernel_rfl, rfl, rfl, by kernel_rfl⟩, by kernel_rfl⟩
def AP (N : Nat) : List (Nat × ax) := [(140, zy N), (65, jQ N)]
def Yb : ax := a_ [.d aO true] false [.d (.bool) false]
def agB (w : Want) (i3 : Int) : St := ⟨[(1, vb 1), (3, vv aj i3)], [(1, .box [.v aj w.1, .v aj w.2.1, .v ai w.2.2.1, .v bM.slice w.2.2.2.1, .v ai w.2.2.2.2.1, .v ai w.2.2.2.2.2])]⟩
noncomputable def aeY (N : Nat) : Env := bQ (ay aG) (aU (AP N)) aX N oH []
noncomputable def aq2 := (dE (ay aG) oH.res (kT (aT [.bool]) Yb []))
noncomputable def UW (N : Nat) (n : Nat) : St → Option Bool := fun S' => iter [] (bH oH 0) (code (aeY N) (bY oH.body 0 0) 0) n S' (bg (aeY N) oH.body 0 0 aq2)
noncomputable def J7 (N : Nat) (w : Want) (n : Nat) : Int → Option Bool := fun i3 => UW N n (agB w i3)
theorem aaF (N : Nat) : J7 N = Vd N := funext fun w => funext (bz (by kernel_rfl) fun n => by
 show _ = Ec N w (J7 N w n)
 kernel_rfl)
theorem adW (N : Nat) (w : Want) : aV (aT [.bool]) (ay aG) (aU (AP N)) aX N oH Yb [⟨aO, w⟩] = F.ag_ N w := by
 show _ = F.ahM N (F.Vd N) w
 rw [← aaF N]
 kernel_rfl
def Yq (N : Nat) : ax := aF [.d aO true] false [.d (.bool) false] [.bool] (F.ag_ N)
theorem adV (N : Nat) : au Tryz.prog 143 (Yq N) := aJ (N := N) bf mixed (ah (l := AP N) (aN rfl (yM N) (aN rfl (jy N) trivial))) (aC _) alv (by decide) fun w => adW N w
def aeS : Nat → Option Ann
 | 0 => some ⟨⟨[(0, kp), (1, kp), (5, kp)], [], []⟩, [(0, ⟨[], [], []⟩)], ⟨[(4, kp)], [], []⟩⟩
 | _ => none
noncomputable def lD : FI := ⟨Tryz.f72.results.toList, aK Tryz.f72.body, Tryz.f72.ntmps, aeS⟩
theorem aiT : bI Tryz.prog 72 lD := ⟨⟨Tryz.f72, Tryz.func72, by kernel_rfl, rfl, rfl, by kernel_rfl⟩, by kernel_rfl⟩
def wz (N : Nat) : List (Nat × ax) := []
def QL : ax := a_ [.d ai false, .d (.str) false] false [.d (.bool) false]
def abD (list : List Txt) (name : Txt) (i5 : Int) : St := ⟨[(0, vv ai list), (1, vv Ty.str name), (5, vv aj i5)], []⟩
noncomputable def Yk (N : Nat) : Env := bQ (ay aG) (aU (wz N)) aX N lD []
noncomputable def apr := (dE (ay aG) lD.res (kT (aT [.bool]) QL []))
noncomputable def Sm (N : Nat) (n : Nat) : St → Option Bool := fun S' => iter [] (bH lD 0) (code (Yk N) (bY lD.body 0 0) 0) n S' (bg (Yk N) lD.body 0 0 apr)
noncomputable def Hz (N : Nat) (list : List Txt) (name : Txt) (n : Nat) : Int → Option Bool := fun i5 => Sm N n (abD list name i5)
theorem Vx (N : Nat) : Hz N = Oq N := funext fun list => funext fun name => funext (bz (by kernel_rfl) fun n => by
 show _ = x_ N list name (Hz N list name n)
 kernel_rfl)
theorem acs (N : Nat) (list : List Txt) (name : Txt) : aV (aT [.bool]) (ay aG) (aU (wz N)) aX N lD QL [⟨ai, list⟩, ⟨.str, name⟩] = F.ug N list name := by
 show _ = F.UQ N (F.Oq N) list name
 rw [← Vx N]
 kernel_rfl
def lN (N : Nat) : ax := aF [.d ai false, .d (.str) false] false [.d (.bool) false] [.bool] (F.ug N)
theorem kU (N : Nat) : au Tryz.prog 72 (lN N) := aJ (N := N) bf mixed (ah (l := wz N) trivial) (aC _) aiT (by decide) fun list name => acs N list name
def an0 : Nat → Option Ann
 | 0 => some ⟨⟨[(0, kp), (1, kp), (5, kp)], [], []⟩, [(0, ⟨[], [], []⟩)], ⟨[(4, kp)], [], []⟩⟩
 | _ => none
noncomputable def qc : FI := ⟨Tryz.f103.results.toList, aK Tryz.f103.body, Tryz.f103.ntmps, an0⟩
theorem alb : bI Tryz.prog 103 qc := ⟨⟨Tryz.f103, Tryz.func103, by kernel_rfl, rfl, rfl, by kernel_rfl⟩, by kernel_rfl⟩
def BP (N : Nat) : List (Nat × ax) := [(72, lN N)]
def Xl : ax := a_ [.d ai false, .d ai false] false [.d (.bool) false]
def akp (a : List Txt) (b : List Txt) (i5 : Int) : St := ⟨[(0, vv ai a), (1, vv ai b), (5, vv aj i5)], []⟩
noncomputable def aja (N : Nat) : Env := bQ (ay aG) (aU (BP N)) aX N qc []
noncomputable def aqI := (dE (ay aG) qc.res (kT (aT [.bool]) Xl []))
noncomputable def TZ (N : Nat) (n : Nat) : St → Option Bool := fun S' => iter [] (bH qc 0) (code (aja N) (bY qc.body 0 0) 0) n S' (bg (aja N) qc.body 0 0 aqI)
noncomputable def NE (N : Nat) (a : List Txt) (b : List Txt) (n : Nat) : Int → Option Bool := fun i5 => TZ N n (akp a b i5)
theorem acH (N : Nat) : NE N = V7 N := funext fun a => funext fun b => funext (bz (by kernel_rfl) fun n => by
 show _ = Ep N a b (NE N a b n)
 kernel_rfl)
theorem afH (N : Nat) (a : List Txt) (b : List Txt) : aV (aT [.bool]) (ay aG) (aU (BP N)) aX N qc Xl [⟨ai, a⟩, ⟨ai, b⟩] = F.GY N a b := by
 show _ = F.aiL N (F.V7 N) a b
 rw [← acH N]
 kernel_rfl
def xQ (N : Nat) : ax := aF [.d ai false, .d ai false] false [.d (.bool) false] [.bool] (F.GY N)
theorem yc (N : Nat) : au Tryz.prog 103 (xQ N) := aJ (N := N) bf mixed (ah (l := BP N) (aN rfl (kU N) trivial)) (aC _) alb (by decide) fun a b => afH N a b
def ala : Nat → Option Ann := fun _ => none
noncomputable def Zn : FI := ⟨Tryz.f100.results.toList, aK Tryz.f100.body, Tryz.f100.ntmps, ala⟩
theorem alU : bI Tryz.prog 100 Zn := ⟨⟨Tryz.f100, Tryz.func100, by kernel_rfl, rfl, rfl, by kernel_rfl⟩, by kernel_rfl⟩
def MF (N : Nat) : List (Nat × ax) := [(65, jQ N), (143, Yq N), (97, Fv N), (103, xQ N)]
def alK : ax := a_ [.d aO true] false [.d (.bool) false]
theorem ag5 (N : Nat) (w : Want) : aV (aT [.bool]) (ay aG) (aU (MF N)) aX N Zn alK [⟨aO, w⟩] = F.abH N w := by kernel_rfl
def Ou (N : Nat) : ax := aF [.d aO true] false [.d (.bool) false] [.bool] (F.abH N)
theorem RD (N : Nat) : au Tryz.prog 100 (Ou N) := aJ (N := N) bf mixed (ah (l := MF N) (aN rfl (jy N) (aN rfl (adV N) (aN rfl (F6 N) (aN rfl (yc N) trivial))))) (aC _) alU (by decide) fun w => ag5 N w
def ald : Nat → Option Ann
 | 0 => some ⟨⟨[(1, kp), (2, kp), (5, kp)], [(2, [kp, kp, kp, kp, kp])], []⟩, [(0, ⟨[], [], []⟩)], ⟨[(4, kp)], [], []⟩⟩
 | _ => none
noncomputable def oV : FI := ⟨Tryz.f70.results.toList, aK Tryz.f70.body, Tryz.f70.ntmps, ald⟩
theorem al_ : bI Tryz.prog 70 oV := ⟨⟨Tryz.f70, Tryz.func70, by kernel_rfl, rfl, rfl, by kernel_rfl⟩, by kernel_rfl⟩
def Ap (N : Nat) : List (Nat × ax) := []
def Ym : ax := a_ [.d aA true, .d (.str) false] false [.d aj false]
def aiV (b : Book) (name : Txt) (i5 : Int) : St := ⟨[(1, vv Ty.str name), (2, vb 2), (5, vv aj i5)], [(2, .box [.v bT.slice b.1, .v aZ.slice b.2.1, .v ai b.2.2.1, .v bi.slice b.2.2.2.1, .v aj b.2.2.2.2])]⟩
noncomputable def aeD (N : Nat) : Env := bQ (ay aG) (aU (Ap N)) aX N oV []
noncomputable def apX := (dE (ay aG) oV.res (kT (aT [aj]) Ym []))
noncomputable def VZ (N : Nat) (n : Nat) : St → Option Int := fun S' => iter [] (bH oV 0) (code (aeD N) (bY oV.body 0 0) 0) n S' (bg (aeD N) oV.body 0 0 apX)
noncomputable def MP (N : Nat) (b : Book) (name : Txt) (n : Nat) : Int → Option Int := fun i5 => VZ N n (aiV b name i5)
theorem abk (N : Nat) : MP N = Ud N := funext fun b => funext fun name => funext (bz (by kernel_rfl) fun n => by
 show _ = EW N b name (MP N b name n)
 kernel_rfl)
theorem agP (N : Nat) (b : Book) (name : Txt) : aV (aT [aj]) (ay aG) (aU (Ap N)) aX N oV Ym [⟨aA, b⟩, ⟨.str, name⟩] = F.D8 N b name := by
 show _ = F.akl N (F.Ud N) b name
 rw [← abk N]
 kernel_rfl
def lZ (N : Nat) : ax := aF [.d aA true, .d (.str) false] false [.d aj false] [aj] (F.D8 N)
theorem kZ (N : Nat) : au Tryz.prog 70 (lZ N) := aJ (N := N) bf mixed (ah (l := Ap N) trivial) (aC _) al_ (by decide) fun b name => agP N b name
def ao0 : Nat → Option Ann
 | 0 => some ⟨⟨[(2, kp), (3, kp), (5, kp)], [(2, [kp, kp, kp, kp, kp]), (3, [kp, kp, kp, kp, kp, kp])], []⟩, [(0, ⟨[(2, kp), (3, kp)], [(2, [kp, kp, kp, kp, kp]), (3, [kp, kp, kp, kp, kp, kp])], []⟩)], ⟨[(4, kp)], [], []⟩⟩
 | 2 => some ⟨⟨[(2, kp), (3, kp), (6, kp)], [(2, [kp, kp, kp, kp, kp]), (3, [kp, kp, kp, kp, kp, kp])], []⟩, [(2, ⟨[(2, kp), (3, kp)], [(2, [kp, kp, kp, kp, kp]), (3, [kp, kp, kp, kp, kp, kp])], []⟩)], ⟨[(4, kp)], [], []⟩⟩
 | 4 => some ⟨⟨[(2, kp), (3, kp), (7, kp)], [(2, [kp, kp, kp, kp, kp]), (3, [kp, kp, kp, kp, kp, kp])], []⟩, [(4, ⟨[], [], []⟩)], ⟨[(4, kp)], [], []⟩⟩
 | _ => none
noncomputable def ig : FI := ⟨Tryz.f101.results.toList, aK Tryz.f101.body, Tryz.f101.ntmps, ao0⟩
theorem ak6 : bI Tryz.prog 101 ig := ⟨⟨Tryz.f101, Tryz.func101, by kernel_rfl, rfl, rfl, by kernel_rfl⟩, by kernel_rfl⟩
def Ac (N : Nat) : List (Nat × ax) := [(70, lZ N), (72, lN N)]
def Yi : ax := a_ [.d aA true, .d aO true] false [.d (.bool) false]
def ad_ (b : Book) (w : Want) (i7 : Int) : St := ⟨[(2, vb 2), (3, vb 3), (7, vv aj i7)], [(2, .box [.v bT.slice b.1, .v aZ.slice b.2.1, .v ai b.2.2.1, .v bi.slice b.2.2.2.1, .v aj b.2.2.2.2]), (3, .box [.v aj w.1, .v aj w.2.1, .v ai w.2.2.1, .v bM.slice w.2.2.2.1, .v ai w.2.2.2.2.1, .v ai w.2.2.2.2.2])]⟩
def agR (b : Book) (w : Want) (i6 : Int) : St := ⟨[(2, vb 2), (3, vb 3), (6, vv aj i6)], [(2, .box [.v bT.slice b.1, .v aZ.slice b.2.1, .v ai b.2.2.1, .v bi.slice b.2.2.2.1, .v aj b.2.2.2.2]), (3, .box [.v aj w.1, .v aj w.2.1, .v ai w.2.2.1, .v bM.slice w.2.2.2.1, .v ai w.2.2.2.2.1, .v ai w.2.2.2.2.2])]⟩
def afc (b : Book) (w : Want) (i5 : Int) : St := ⟨[(2, vb 2), (3, vb 3), (5, vv aj i5)], [(2, .box [.v bT.slice b.1, .v aZ.slice b.2.1, .v ai b.2.2.1, .v bi.slice b.2.2.2.1, .v aj b.2.2.2.2]), (3, .box [.v aj w.1, .v aj w.2.1, .v ai w.2.2.1, .v bM.slice w.2.2.2.1, .v ai w.2.2.2.2.1, .v ai w.2.2.2.2.2])]⟩
noncomputable def BU (N : Nat) : Env := bQ (ay aG) (aU (Ac N)) aX N ig []
noncomputable def WG := (dE (ay aG) ig.res (kT (aT [.bool]) Yi []))
noncomputable def WM (N : Nat) (n : Nat) : St → Option Bool := fun S' => iter [] (bH ig 4) (code (BU N) (bY ig.body 0 4) 4) n S' (bg (BU N) ig.body 0 4 WG)
noncomputable def CX (N : Nat) (b : Book) (w : Want) (n : Nat) : Int → Option Bool := fun i7 => WM N n (ad_ b w i7)
theorem aaG (N : Nat) : CX N = Bo N := funext fun b => funext fun w => funext (bz (by kernel_rfl) fun n => by
 show _ = ER N b w (CX N b w n)
 kernel_rfl)
noncomputable def VT (N : Nat) (n : Nat) : St → Option Bool := fun S' => iter [] (bH ig 2) (code (BU N) (bY ig.body 0 2) 2) n S' (bg (BU N) ig.body 0 2 WG)
noncomputable def Aj (N : Nat) (b : Book) (w : Want) (n : Nat) : Int → Option Bool := fun i6 => VT N n (agR b w i6)
theorem aaL (N : Nat) : Aj N = Az N := funext fun b => funext fun w => funext (bz (by kernel_rfl) fun n => by
 show _ = EI N (Bo N) b w (Aj N b w n)
 rw [show Bo N = CX N from (aaG N).symm]
 kernel_rfl)
noncomputable def Wq (N : Nat) (n : Nat) : St → Option Bool := fun S' => iter [] (bH ig 0) (code (BU N) (bY ig.body 0 0) 0) n S' (bg (BU N) ig.body 0 0 WG)
noncomputable def KQ (N : Nat) (b : Book) (w : Want) (n : Nat) : Int → Option Bool := fun i5 => Wq N n (afc b w i5)
theorem aa9 (N : Nat) : KQ N = TL N := funext fun b => funext fun w => funext (bz (by kernel_rfl) fun n => by
 show _ = EU N (Az N) b w (KQ N b w n)
 rw [show Az N = Aj N from (aaL N).symm]
 kernel_rfl)
theorem ad4 (N : Nat) (b : Book) (w : Want) : aV (aT [.bool]) (ay aG) (aU (Ac N)) aX N ig Yi [⟨aA, b⟩, ⟨aO, w⟩] = F.aco N b w := by
 show _ = F.af4 N (F.TL N) b w
 rw [← aa9 N]
 kernel_rfl
def O_ (N : Nat) : ax := aF [.d aA true, .d aO true] false [.d (.bool) false] [.bool] (F.aco N)
theorem Rw (N : Nat) : au Tryz.prog 101 (O_ N) := aJ (N := N) bf mixed (ah (l := Ac N) (aN rfl (kZ N) (aN rfl (kU N) trivial))) (aC _) ak6 (by decide) fun b w => ad4 N b w
def aeA : Nat → Option Ann
 | 0 => some ⟨⟨[(0, kp), (1, kp), (5, kp)], [], []⟩, [(0, ⟨[], [], []⟩)], ⟨[(4, kp)], [], []⟩⟩
 | _ => none
noncomputable def lQ : FI := ⟨Tryz.f146.results.toList, aK Tryz.f146.body, Tryz.f146.ntmps, aeA⟩
theorem ahg : bI Tryz.prog 146 lQ := ⟨⟨Tryz.f146, Tryz.func146, by kernel_rfl, rfl, rfl, by kernel_rfl⟩, by kernel_rfl⟩
def vI (N : Nat) : List (Nat × ax) := [(72, lN N)]
def Rn : ax := a_ [.d ai false, .d ai false] false [.d (.bool) false]
def abE (a : List Txt) (b : List Txt) (i5 : Int) : St := ⟨[(0, vv ai a), (1, vv ai b), (5, vv aj i5)], []⟩
noncomputable def Yg (N : Nat) : Env := bQ (ay aG) (aU (vI N)) aX N lQ []
noncomputable def aow := (dE (ay aG) lQ.res (kT (aT [.bool]) Rn []))
noncomputable def Rh (N : Nat) (n : Nat) : St → Option Bool := fun S' => iter [] (bH lQ 0) (code (Yg N) (bY lQ.body 0 0) 0) n S' (bg (Yg N) lQ.body 0 0 aow)
noncomputable def Gt (N : Nat) (a : List Txt) (b : List Txt) (n : Nat) : Int → Option Bool := fun i5 => Rh N n (abE a b i5)
theorem V5 (N : Nat) : Gt N = PV N := funext fun a => funext fun b => funext (bz (by kernel_rfl) fun n => by
 show _ = xy N a b (Gt N a b n)
 kernel_rfl)
theorem aaB (N : Nat) (a : List Txt) (b : List Txt) : aV (aT [.bool]) (ay aG) (aU (vI N)) aX N lQ Rn [⟨ai, a⟩, ⟨ai, b⟩] = F.nD N a b := by
 show _ = F.Ux N (F.PV N) a b
 rw [← V5 N]
 kernel_rfl
def IZ (N : Nat) : ax := aF [.d ai false, .d ai false] false [.d (.bool) false] [.bool] (F.nD N)
theorem LV (N : Nat) : au Tryz.prog 146 (IZ N) := aJ (N := N) bf mixed (ah (l := vI N) (aN rfl (kU N) trivial)) (aC _) ahg (by decide) fun a b => aaB N a b
def alC : Nat → Option Ann := fun _ => none
noncomputable def Xi : FI := ⟨Tryz.f175.results.toList, aK Tryz.f175.body, Tryz.f175.ntmps, alC⟩
theorem anu : bI Tryz.prog 175 Xi := ⟨⟨Tryz.f175, Tryz.func175, by kernel_rfl, rfl, rfl, by kernel_rfl⟩, by kernel_rfl⟩
def Me (N : Nat) : List (Nat × ax) := [(146, IZ N)]
def amT : ax := a_ [.d aZ true, .d aO true, .d bM true] false [.d (.bool) false]
theorem af9 (N : Nat) (s : aP) (w : Want) (u : Use) : aV (aT [.bool]) (ay aG) (aU (Me N)) aX N Xi amT [⟨aZ, s⟩, ⟨aO, w⟩, ⟨bM, u⟩] = F.afA N s w u := by kernel_rfl
def Z_ (N : Nat) : ax := aF [.d aZ true, .d aO true, .d bM true] false [.d (.bool) false] [.bool] (F.afA N)
theorem agp (N : Nat) : au Tryz.prog 175 (Z_ N) := aJ (N := N) bf mixed (ah (l := Me N) (aN rfl (LV N) trivial)) (aC _) anu (by decide) fun s w u => af9 N s w u
def anT : Nat → Option Ann
 | 0 => some ⟨⟨[(2, kp), (3, kp), (5, kp)], [(2, [kp, kp, kp, kp, kp]), (3, [kp, kp, kp, kp, kp, kp, kp])], []⟩, [(0, ⟨[], [], []⟩)], ⟨[(4, kp)], [], []⟩⟩
 | _ => none
noncomputable def qV : FI := ⟨Tryz.f142.results.toList, aK Tryz.f142.body, Tryz.f142.ntmps, anT⟩
theorem alI : bI Tryz.prog 142 qV := ⟨⟨Tryz.f142, Tryz.func142, by kernel_rfl, rfl, rfl, by kernel_rfl⟩, by kernel_rfl⟩
def Ci (N : Nat) : List (Nat × ax) := [(100, Ou N), (101, O_ N), (70, lZ N), (175, Z_ N)]
def Zb : ax := a_ [.d aA true, .d bi true] false [.d (.bool) false]
def ajv (b : Book) (p : Part) (i5 : Int) : St := ⟨[(2, vb 2), (3, vb 3), (5, vv aj i5)], [(2, .box [.v bT.slice b.1, .v aZ.slice b.2.1, .v ai b.2.2.1, .v bi.slice b.2.2.2.1, .v aj b.2.2.2.2]), (3, .box [.v aj p.1.1, .v aj p.1.2.1, .v ai p.1.2.2.1, .v bM.slice p.1.2.2.2.1, .v ai p.1.2.2.2.2.1, .v ai p.1.2.2.2.2.2, .v Ty.bool p.2])]⟩
noncomputable def afb (N : Nat) : Env := bQ (ay aG) (aU (Ci N)) aX N qV []
noncomputable def aqX := (dE (ay aG) qV.res (kT (aT [.bool]) Zb []))
noncomputable def TB (N : Nat) (n : Nat) : St → Option Bool := fun S' => iter [] (bH qV 0) (code (afb N) (bY qV.body 0 0) 0) n S' (bg (afb N) qV.body 0 0 aqX)
noncomputable def JH (N : Nat) (b : Book) (p : Part) (n : Nat) : Int → Option Bool := fun i5 => TB N n (ajv b p i5)
theorem aaw (N : Nat) : JH N = Wy N := funext fun b => funext fun p => funext (bz (by kernel_rfl) fun n => by
 show _ = EM N b p (JH N b p n)
 kernel_rfl)
theorem ado (N : Nat) (b : Book) (p : Part) : aV (aT [.bool]) (ay aG) (aU (Ci N)) aX N qV Zb [⟨aA, b⟩, ⟨bi, p⟩] = F.ahJ N b p := by
 show _ = F.ahl N (F.Wy N) b p
 rw [← aaw N]
 kernel_rfl
def XF (N : Nat) : ax := aF [.d aA true, .d bi true] false [.d (.bool) false] [.bool] (F.ahJ N)
theorem aek (N : Nat) : au Tryz.prog 142 (XF N) := aJ (N := N) bf mixed (ah (l := Ci N) (aN rfl (RD N) (aN rfl (Rw N) (aN rfl (kZ N) (aN rfl (agp N) trivial))))) (aC _) alI (by decide) fun b p => ado N b p
def aoE : Nat → Option Ann
 | 0 => some ⟨⟨[(1, kp), (3, .own 700003 9 Ty.str), (4, kp)], [(1, [kp, kp, kp, kp, kp, kp])], []⟩, [(0, ⟨[(3, .own 700003 9 Ty.str)], [], []⟩)], ⟨[], [], []⟩⟩
 | _ => none
noncomputable def qy : FI := ⟨Tryz.f104.results.toList, aK Tryz.f104.body, Tryz.f104.ntmps, aoE⟩
theorem ak0 : bI Tryz.prog 104 qy := ⟨⟨Tryz.f104, Tryz.func104, by kernel_rfl, rfl, rfl, by kernel_rfl⟩, by kernel_rfl⟩
def CO (N : Nat) : List (Nat × ax) := []
def ZR : ax := a_ [.d aO true] false [.own ai false [(9, none)]]
def adO (w : Want) (i4 : Int) (out3a : List Txt) : St := ⟨[(1, vb 1), (3, va 700003), (4, vv aj i4)], [(1, .box [.v aj w.1, .v aj w.2.1, .v ai w.2.2.1, .v bM.slice w.2.2.2.1, .v ai w.2.2.2.2.1, .v ai w.2.2.2.2.2]), (700003, .arr 9 Ty.str out3a)]⟩
noncomputable def aj0 (N : Nat) : Env := bQ (ay aG) (aU (CO N)) aX N qy []
noncomputable def ap_ := (dE (ay aG) qy.res (kT (aT [ai]) ZR []))
noncomputable def UV (N : Nat) (n : Nat) : St → Option (List Txt) := fun S' => iter [] (bH qy 0) (code (aj0 N) (bY qy.body 0 0) 0) n S' (bg (aj0 N) qy.body 0 0 ap_)
noncomputable def KY (N : Nat) (w : Want) (n : Nat) : Int → (List Txt) → Option (List Txt) := fun i4 out3a => UV N n (adO w i4 out3a)
theorem aao (N : Nat) : KY N = TN N := funext fun w => funext (bz (by kernel_rfl) fun n => by
 show _ = Fb N w (KY N w n)
 kernel_rfl)
theorem aeV (N : Nat) (w : Want) : aV (aT [ai]) (ay aG) (aU (CO N)) aX N qy ZR [⟨aO, w⟩] = F.OI N w := by
 show _ = F.ajP N (F.TN N) w
 rw [← aao N]
 kernel_rfl
def N_ (N : Nat) : ax := aF [.d aO true] false [.own ai false [(9, none)]] [ai] (F.OI N)
theorem Tq (N : Nat) : au Tryz.prog 104 (N_ N) := aJ (N := N) bf mixed (ah (l := CO N) trivial) (aC _) ak0 (by decide) fun w => aeV N w
def aok : Nat → Option Ann := fun _ => none
noncomputable def Yc : FI := ⟨Tryz.f105.results.toList, aK Tryz.f105.body, Tryz.f105.ntmps, aok⟩
theorem anc : bI Tryz.prog 105 Yc := ⟨⟨Tryz.f105, Tryz.func105, by kernel_rfl, rfl, rfl, by kernel_rfl⟩, by kernel_rfl⟩
def J9 (N : Nat) : List (Nat × ax) := [(103, xQ N)]
def akU : ax := a_ [.d aO true, .d aO true] false [.d (.bool) false]
theorem agc (N : Nat) (a : Want) (b : Want) : aV (aT [.bool]) (ay aG) (aU (J9 N)) aX N Yc akU [⟨aO, a⟩, ⟨aO, b⟩] = F.U0 N a b := by kernel_rfl
def N7 (N : Nat) : ax := aF [.d aO true, .d aO true] false [.d (.bool) false] [.bool] (F.U0 N)
theorem PY (N : Nat) : au Tryz.prog 105 (N7 N) := aJ (N := N) bf mixed (ah (l := J9 N) (aN rfl (yc N) trivial)) (aC _) anc (by decide) fun a b => agc N a b
def amR : Nat → Option Ann
 | 0 => some ⟨⟨[(1, kp), (3, kp)], [(1, [kp, kp, kp, kp, kp])], []⟩, [(0, ⟨[], [], []⟩)], ⟨[(2, kp)], [], []⟩⟩
 | 2 => some ⟨⟨[(1, kp), (3, kp), (4, kp), (5, kp)], [(1, [kp, kp, kp, kp, kp]), (4, [kp, kp, kp, kp, kp, kp])], []⟩, [(2, ⟨[(1, kp), (3, kp)], [(1, [kp, kp, kp, kp, kp])], []⟩)], ⟨[(2, kp)], [], []⟩⟩
 | _ => none
noncomputable def iG : FI := ⟨Tryz.f99.results.toList, aK Tryz.f99.body, Tryz.f99.ntmps, amR⟩
theorem ant : bI Tryz.prog 99 iG := ⟨⟨Tryz.f99, Tryz.func99, by kernel_rfl, rfl, rfl, by kernel_rfl⟩, by kernel_rfl⟩
def zK (N : Nat) : List (Nat × ax) := [(142, XF N), (104, N_ N), (103, xQ N), (105, N7 N)]
def aab : ax := a_ [.d aA true] false [.d (.bool) false]
def ag7 (b : Book) (i3 : Int) (w4c0 : Int) (w4c1 : Int) (w4c2 : List Txt) (w4c3 : List Use) (w4c4 : List Txt) (w4c5 : List Txt) (k5 : Int) : St := ⟨[(1, vb 1), (3, vv aj i3), (4, vb 4), (5, vv aj k5)], [(1, .box [.v bT.slice b.1, .v aZ.slice b.2.1, .v ai b.2.2.1, .v bi.slice b.2.2.2.1, .v aj b.2.2.2.2]), (4, .box [.v aj w4c0, .v aj w4c1, .v ai w4c2, .v bM.slice w4c3, .v ai w4c4, .v ai w4c5])]⟩
def H6 (b : Book) (i3 : Int) : St := ⟨[(1, vb 1), (3, vv aj i3)], [(1, .box [.v bT.slice b.1, .v aZ.slice b.2.1, .v ai b.2.2.1, .v bi.slice b.2.2.2.1, .v aj b.2.2.2.2])]⟩
noncomputable def GG (N : Nat) : Env := bQ (ay aG) (aU (zK N)) aX N iG []
noncomputable def aep := (dE (ay aG) iG.res (kT (aT [.bool]) aab []))
noncomputable def Ut (N : Nat) (nxS0 : St → Option Bool) (n : Nat) : St → Option Bool := fun S' => iter [] (bH iG 2) (code (GG N) (bY (bY iG.body 0 0) 0 2) 2) n S' (bg (GG N) (bY iG.body 0 0) 0 2 (KX [] (bH iG 0) nxS0 (bg (GG N) iG.body 0 0 aep)))
noncomputable def zT (N : Nat) (nxS0 : St → Option Bool) (b : Book) (i3 : Int) (w4c0 : Int) (w4c1 : Int) (w4c2 : List Txt) (w4c3 : List Use) (w4c4 : List Txt) (w4c5 : List Txt) (n : Nat) : Int → Option Bool := fun k5 => Ut N nxS0 n (ag7 b i3 w4c0 w4c1 w4c2 w4c3 w4c4 w4c5 k5)
theorem abS (N : Nat) (nxS0 : St → Option Bool) (b : Book) : zT N nxS0 b = IB N (fun i3 => nxS0 (H6 b i3)) b := funext fun i3 => funext fun w4c0 => funext fun w4c1 => funext fun w4c2 => funext fun w4c3 => funext fun w4c4 => funext fun w4c5 => funext (bz (by kernel_rfl) fun n => by
 show _ = Eu N (fun i3 => nxS0 (H6 b i3)) b i3 w4c0 w4c1 w4c2 w4c3 w4c4 w4c5 (zT N nxS0 b i3 w4c0 w4c1 w4c2 w4c3 w4c4 w4c5 n)
 kernel_rfl)
noncomputable def wC (N : Nat) (n : Nat) : St → Option Bool := fun S' => iter [] (bH iG 0) (code (GG N) (bY iG.body 0 0) 0) n S' (bg (GG N) iG.body 0 0 aep)
noncomputable def uC (N : Nat) (b : Book) (n : Nat) : Int → Option Bool := fun i3 => wC N n (H6 b i3)
theorem abL (N : Nat) : uC N = Vu N := funext fun b => funext (bz (by kernel_rfl) fun n => by
 show _ = ES N (IB N (uC N b n) b) b (uC N b n)
 rw [show IB N (uC N b n) b = zT N (wC N n) b from (abS N (wC N n) b).symm]
 kernel_rfl)
theorem adK (N : Nat) (b : Book) : aV (aT [.bool]) (ay aG) (aU (zK N)) aX N iG aab [⟨aA, b⟩] = F.akM N b := by
 show _ = F.aho N (F.Vu N) b
 rw [← abL N]
 kernel_rfl
def Z4 (N : Nat) : ax := aF [.d aA true] false [.d (.bool) false] [.bool] (F.akM N)
theorem ahu (N : Nat) : au Tryz.prog 99 (Z4 N) := aJ (N := N) bf mixed (ah (l := zK N) (aN rfl (aek N) (aN rfl (Tq N) (aN rfl (yc N) (aN rfl (PY N) trivial))))) (aC _) ant (by decide) fun b => adK N b
def apn : Nat → Option Ann
 | 0 => some ⟨⟨[(1, kp), (3, kp)], [(1, [kp, kp, kp, kp, kp])], []⟩, [(0, ⟨[(1, kp)], [(1, [kp, kp, kp, kp, kp])], []⟩)], ⟨[(2, kp)], [], []⟩⟩
 | _ => none
noncomputable def qf : FI := ⟨Tryz.f63.results.toList, aK Tryz.f63.body, Tryz.f63.ntmps, apn⟩
theorem aor : bI Tryz.prog 63 qf := ⟨⟨Tryz.f63, Tryz.func63, by kernel_rfl, rfl, rfl, by kernel_rfl⟩, by kernel_rfl⟩
def AA (N : Nat) : List (Nat × ax) := [(96, XI N), (97, Fv N), (65, jQ N), (98, ZQ N), (99, Z4 N)]
def aae : ax := a_ [.d aA true] false [.d (.bool) false]
def ag8 (b : Book) (i3 : Int) : St := ⟨[(1, vb 1), (3, vv aj i3)], [(1, .box [.v bT.slice b.1, .v aZ.slice b.2.1, .v ai b.2.2.1, .v bi.slice b.2.2.2.1, .v aj b.2.2.2.2])]⟩
noncomputable def ahD (N : Nat) : Env := bQ (ay aG) (aU (AA N)) aX N qf []
noncomputable def aq1 := (dE (ay aG) qf.res (kT (aT [.bool]) aae []))
noncomputable def UK (N : Nat) (n : Nat) : St → Option Bool := fun S' => iter [] (bH qf 0) (code (ahD N) (bY qf.body 0 0) 0) n S' (bg (ahD N) qf.body 0 0 aq1)
noncomputable def K_ (N : Nat) (b : Book) (n : Nat) : Int → Option Bool := fun i3 => UK N n (ag8 b i3)
theorem abK (N : Nat) : K_ N = Oy N := funext fun b => funext (bz (by kernel_rfl) fun n => by
 show _ = EE N b (K_ N b n)
 kernel_rfl)
theorem acZ (N : Nat) (b : Book) : aV (aT [.bool]) (ay aG) (aU (AA N)) aX N qf aae [⟨aA, b⟩] = F.Jj N b := by
 show _ = F.aiS N (F.Oy N) b
 rw [← abK N]
 kernel_rfl
def pK (N : Nat) : ax := aF [.d aA true] false [.d (.bool) false] [.bool] (F.Jj N)
theorem ou (N : Nat) : au Tryz.prog 63 (pK N) := aJ (N := N) bf mixed (ah (l := AA N) (aN rfl (agf N) (aN rfl (F6 N) (aN rfl (jy N) (aN rfl (agi N) (aN rfl (ahu N) trivial)))))) (aC _) aor (by decide) fun b => acZ N b
def akV : Nat → Option Ann := fun _ => none
noncomputable def Y2 : FI := ⟨Tryz.f27.results.toList, aK Tryz.f27.body, Tryz.f27.ntmps, akV⟩
theorem anp : bI Tryz.prog 27 Y2 := ⟨⟨Tryz.f27, Tryz.func27, by kernel_rfl, rfl, rfl, by kernel_rfl⟩, by kernel_rfl⟩
def Ls (N : Nat) : List (Nat × ax) := [(63, pK N)]
def amQ : ax := a_ [.d aA true, .d aA true] true [.d aA true, .d (.str) false]
theorem agh (N : Nat) (old : Book) (b : Book) : aV (aT [aA, .str]) (ay aG) (aU (Ls N)) aX N Y2 amQ [⟨aA, old⟩, ⟨aA, b⟩] = F.NV N old b := by kernel_rfl
def EK (N : Nat) : ax := aF [.d aA true, .d aA true] true [.d aA true, .d (.str) false] [aA, .str] (F.NV N)
theorem Gs (N : Nat) : au Tryz.prog 27 (EK N) := aJ (N := N) bf mixed (ah (l := Ls N) (aN rfl (ou N) trivial)) (aC _) anp (by decide) fun old b => agh N old b
def ajT : Nat → Option Ann := fun _ => none
noncomputable def QV : FI := ⟨Tryz.f23.results.toList, aK Tryz.f23.body, Tryz.f23.ntmps, ajT⟩
theorem afg : bI Tryz.prog 23 QV := ⟨⟨Tryz.f23, Tryz.func23, by kernel_rfl, rfl, rfl, by kernel_rfl⟩, by kernel_rfl⟩
def G_ (N : Nat) : List (Nat × ax) := [(25, qE N), (27, EK N)]
def afG : ax := a_ [.d aA true, .d ai false] true [.d aA true, .d (.str) false]
theorem aa4 (N : Nat) (b : Book) (ws : List Txt) : aV (aT [aA, .str]) (ay aG) (aU (G_ N)) aX N QV afG [⟨aA, b⟩, ⟨ai, ws⟩] = F.Rl N b ws := by kernel_rfl
def RH (N : Nat) : ax := aF [.d aA true, .d ai false] true [.d aA true, .d (.str) false] [aA, .str] (F.Rl N)
theorem aam (N : Nat) : au Tryz.prog 23 (RH N) := aJ (N := N) bf mixed (ah (l := G_ N) (aN rfl (nN N) (aN rfl (Gs N) trivial))) (aC _) afg (by decide) fun b ws => aa4 N b ws
def amh : Nat → Option Ann
 | 0 => some ⟨⟨[(0, kp), (3, kp), (4, kp)], [], []⟩, [(0, ⟨[(3, kp)], [], []⟩)], ⟨[(2, kp)], [], []⟩⟩
 | _ => none
noncomputable def oM : FI := ⟨Tryz.f32.results.toList, aK Tryz.f32.body, Tryz.f32.ntmps, amh⟩
theorem apq : bI Tryz.prog 32 oM := ⟨⟨Tryz.f32, Tryz.func32, by kernel_rfl, rfl, rfl, by kernel_rfl⟩, by kernel_rfl⟩
def CV (N : Nat) : List (Nat × ax) := [(65, jQ N)]
def ZL : ax := a_ [.d (.str) false] false [.d aj false]
def aiY (s : Txt) (n3 : Int) (i4 : Int) : St := ⟨[(0, vv Ty.str s), (3, vv aj n3), (4, vv aj i4)], []⟩
noncomputable def agA (N : Nat) : Env := bQ (ay aG) (aU (CV N)) aX N oM []
noncomputable def aqs := (dE (ay aG) oM.res (kT (aT [aj]) ZL []))
noncomputable def Uw (N : Nat) (n : Nat) : St → Option Int := fun S' => iter [] (bH oM 0) (code (agA N) (bY oM.body 0 0) 0) n S' (bg (agA N) oM.body 0 0 aqs)
noncomputable def L_ (N : Nat) (s : Txt) (n : Nat) : Int → Int → Option Int := fun n3 i4 => Uw N n (aiY s n3 i4)
theorem acn (N : Nat) : L_ N = wH N := funext fun s => funext (bz (by kernel_rfl) fun n => by
 show _ = uB N s (L_ N s n)
 kernel_rfl)
theorem agT (N : Nat) (s : Txt) : aV (aT [aj]) (ay aG) (aU (CV N)) aX N oM ZL [⟨.str, s⟩] = F.t_ N s := by
 show _ = F.aeI N (F.wH N) s
 rw [← acn N]
 kernel_rfl
def yG (N : Nat) : ax := aF [.d (.str) false] false [.d aj false] [aj] (F.t_ N)
theorem xP (N : Nat) : au Tryz.prog 32 (yG N) := aJ (N := N) bf mixed (ah (l := CV N) (aN rfl (jy N) trivial)) (aC _) apq (by decide) fun s => agT N s
def aoB : Nat → Option Ann := fun _ => none
noncomputable def Xb : FI := ⟨Tryz.f26.results.toList, aK Tryz.f26.body, Tryz.f26.ntmps, aoB⟩
theorem am4 : bI Tryz.prog 26 Xb := ⟨⟨Tryz.f26, Tryz.func26, by kernel_rfl, rfl, rfl, by kernel_rfl⟩, by kernel_rfl⟩
def MS (N : Nat) : List (Nat × ax) := [(8, y7 N)]
def amJ : ax := a_ [.d (.str) false] true [.d ai false]
theorem acQ (N : Nat) (s : Txt) : aV (aT [ai]) (ay aG) (aU (MS N)) aX N Xb amJ [⟨.str, s⟩] = F.I4 N s := by kernel_rfl
def w_ (N : Nat) : ax := aF [.d (.str) false] true [.d ai false] [ai] (F.I4 N)
theorem yV (N : Nat) : au Tryz.prog 26 (w_ N) := aJ (N := N) bf mixed (ah (l := MS N) (aN rfl (Bj N) trivial)) (aC _) am4 (by decide) fun s => acQ N s
def anZ : Nat → Option Ann
 | 0 => some ⟨⟨[(1, kp), (2, kp), (4, kp), (6, kp), (7, kp)], [(2, [kp, kp, kp, kp, kp]), (4, [kp, kp, kp, kp, kp]), (6, [.own 1000600 44 bT, Dir.frz aZ, .own 1000602 9 Ty.str, Dir.dow 1000603 91 [9, 101, 9, 9] bi, kp])], []⟩, [(0, ⟨[(1, kp), (2, kp), (4, kp), (6, kp), (7, kp)], [(2, [kp, kp, kp, kp, kp]), (4, [kp, kp, kp, kp, kp]), (6, [.own 1000600 44 bT, Dir.frz aZ, .own 1000602 9 Ty.str, Dir.dow 1000603 91 [9, 101, 9, 9] bi, kp])], []⟩)], ⟨[], [], []⟩⟩
 | _ => none
noncomputable def qx : FI := ⟨Tryz.f24.results.toList, aK Tryz.f24.body, Tryz.f24.ntmps, anZ⟩
theorem apu : bI Tryz.prog 24 qx := ⟨⟨Tryz.f24, Tryz.func24, by kernel_rfl, rfl, rfl, by kernel_rfl⟩, by kernel_rfl⟩
def Cc (N : Nat) : List (Nat × ax) := [(25, qE N), (32, yG N), (26, w_ N), (27, EK N)]
def X7 : ax := a_ [.d aA true, .d ai false] true [.d aA true, .d (.str) false]
def afl (b : Book) (ws : List Txt) (r : Book) (t4c4 : Int) (k7 : Int) : St := ⟨[(1, vv ai ws), (2, vb 2), (4, vb 4), (6, vb 6), (7, vv aj k7)], [(2, .box [.v bT.slice b.1, .v aZ.slice b.2.1, .v ai b.2.2.1, .v bi.slice b.2.2.2.1, .v aj b.2.2.2.2]), (4, .box [.emp, .emp, .emp, .emp, .v aj t4c4]), (6, .box [.arr 1000600, .v aZ.slice r.2.1, .arr 1000602, .arr 1000603, .v aj r.2.2.2.2]), (1000600, .arr 44 bT r.1), (1000602, .arr 9 Ty.str r.2.2.1), (1000603, .arr 91 bi r.2.2.2.1 (Dp.yes [9, 101, 9, 9]))]⟩
noncomputable def ag4 (N : Nat) : Env := bQ (ay aG) (aU (Cc N)) aX N qx []
noncomputable def ard := (dE (ay aG) qx.res (kT (aT [aA, .str]) X7 []))
noncomputable def Uh (N : Nat) (n : Nat) : St → Option (Book × Txt) := fun S' => iter [] (bH qx 0) (code (ag4 N) (bY qx.body 0 0) 0) n S' (bg (ag4 N) qx.body 0 0 ard)
noncomputable def LP (N : Nat) (b : Book) (ws : List Txt) (r : Book) (t4c4 : Int) (n : Nat) : Int → Option (Book × Txt) := fun k7 => Uh N n (afl b ws r t4c4 k7)
theorem aaD (N : Nat) : LP N = CB N := funext fun b => funext fun ws => funext fun r => funext fun t4c4 => funext (bz (by kernel_rfl) fun n => by
 show _ = uP N b ws r t4c4 (LP N b ws r t4c4 n)
 kernel_rfl)
theorem aig (N : Nat) (b : Book) (ws : List Txt) : aV (aT [aA, .str]) (ay aG) (aU (Cc N)) aX N qx X7 [⟨aA, b⟩, ⟨ai, ws⟩] = F.aiK N b ws := by
 show _ = F.af5 N (F.CB N) b ws
 rw [← aaD N]
 kernel_rfl
def W9 (N : Nat) : ax := aF [.d aA true, .d ai false] true [.d aA true, .d (.str) false] [aA, .str] (F.aiK N)
theorem afV (N : Nat) : au Tryz.prog 24 (W9 N) := aJ (N := N) bf mixed (ah (l := Cc N) (aN rfl (nN N) (aN rfl (xP N) (aN rfl (yV N) (aN rfl (Gs N) trivial))))) (aC _) apu (by decide) fun b ws => aig N b ws
def aln : Nat → Option Ann
 | 0 => some ⟨⟨[(3, .own 700003 101 bM), (4, kp), (5, kp)], [], []⟩, [(0, ⟨[(3, .own 700003 101 bM)], [], []⟩)], ⟨[], [], []⟩⟩
 | _ => none
noncomputable def rD : FI := ⟨Tryz.f68.results.toList, aK Tryz.f68.body, Tryz.f68.ntmps, aln⟩
theorem aoF : bI Tryz.prog 68 rD := ⟨⟨Tryz.f68, Tryz.func68, by kernel_rfl, rfl, rfl, by kernel_rfl⟩, by kernel_rfl⟩
def BJ (N : Nat) : List (Nat × ax) := [(26, w_ N), (8, y7 N), (32, yG N)]
def W_ : ax := a_ [.d (.str) false] true [.d (.slice bM) false]
def ajj (r : List Txt) (i5 : Int) (out3a : List Use) : St := ⟨[(3, va 700003), (4, vv ai r), (5, vv aj i5)], [(700003, .arr 101 bM out3a)]⟩
noncomputable def afO (N : Nat) : Env := bQ (ay aG) (aU (BJ N)) aX N rD []
noncomputable def aqA := (dE (ay aG) rD.res (kT (aT [.slice bM]) W_ []))
noncomputable def Vk (N : Nat) (n : Nat) : St → Option (List Use) := fun S' => iter [] (bH rD 0) (code (afO N) (bY rD.body 0 0) 0) n S' (bg (afO N) rD.body 0 0 aqA)
noncomputable def Nh (N : Nat) (r : List Txt) (n : Nat) : Int → (List Use) → Option (List Use) := fun i5 out3a => Vk N n (ajj r i5 out3a)
theorem aaz (N : Nat) : Nh N = TS N := funext fun r => funext (bz (by kernel_rfl) fun n => by
 show _ = Eh N r (Nh N r n)
 kernel_rfl)
theorem akq (N : Nat) (s : Txt) : aV (aT [.slice bM]) (ay aG) (aU (BJ N)) aX N rD W_ [⟨.str, s⟩] = F.ahS N s := by
 show _ = F.ajG N (F.TS N) s
 rw [← aaz N]
 kernel_rfl
def Yz (N : Nat) : ax := aF [.d (.str) false] true [.d (.slice bM) false] [.slice bM] (F.ahS N)
theorem adS (N : Nat) : au Tryz.prog 68 (Yz N) := aJ (N := N) bf mixed (ah (l := BJ N) (aN rfl (yV N) (aN rfl (Bj N) (aN rfl (xP N) trivial)))) (aC _) aoF (by decide) fun s => akq N s
def afz : Nat → Option Ann := fun _ => none
noncomputable def Tv : FI := ⟨Tryz.f30.results.toList, aK Tryz.f30.body, Tryz.f30.ntmps, afz⟩
theorem afo : bI Tryz.prog 30 Tv := ⟨⟨Tryz.f30, Tryz.func30, by kernel_rfl, rfl, rfl, by kernel_rfl⟩, by kernel_rfl⟩
def GI (N : Nat) : List (Nat × ax) := [(32, yG N), (26, w_ N), (68, Yz N)]
def ad6 : ax := a_ [.d aj false, .d (.str) false, .d ai false] true [.d aO true]
theorem abP (N : Nat) (kind : Int) (dU : Txt) (ws : List Txt) : aV (aT [aO]) (ay aG) (aU (GI N)) aX N Tv ad6 [⟨aj, kind⟩, ⟨.str, dU⟩, ⟨ai, ws⟩] = F.Ik N kind dU ws := by kernel_rfl
def Q4 (N : Nat) : ax := aF [.d aj false, .d (.str) false, .d ai false] true [.d aO true] [aO] (F.Ik N)
theorem acD (N : Nat) : au Tryz.prog 30 (Q4 N) := aJ (N := N) bf mixed (ah (l := GI N) (aN rfl (xP N) (aN rfl (yV N) (aN rfl (adS N) trivial)))) (aC _) afo (by decide) fun kind dU ws => abP N kind dU ws
def anV : Nat → Option Ann
 | 0 => some ⟨⟨[(1, kp), (2, kp), (5, kp)], [(2, [kp, kp, kp, kp, kp])], []⟩, [(0, ⟨[], [], []⟩)], ⟨[(4, kp)], [], []⟩⟩
 | _ => none
noncomputable def qG : FI := ⟨Tryz.f66.results.toList, aK Tryz.f66.body, Tryz.f66.ntmps, anV⟩
theorem aoh : bI Tryz.prog 66 qG := ⟨⟨Tryz.f66, Tryz.func66, by kernel_rfl, rfl, rfl, by kernel_rfl⟩, by kernel_rfl⟩
def Ae (N : Nat) : List (Nat × ax) := []
def YQ : ax := a_ [.d aA true, .d aj false] false [.d aj false]
def afu (b : Book) (number : Int) (i5 : Int) : St := ⟨[(1, vv aj number), (2, vb 2), (5, vv aj i5)], [(2, .box [.v bT.slice b.1, .v aZ.slice b.2.1, .v ai b.2.2.1, .v bi.slice b.2.2.2.1, .v aj b.2.2.2.2])]⟩
noncomputable def ahL (N : Nat) : Env := bQ (ay aG) (aU (Ae N)) aX N qG []
noncomputable def ark := (dE (ay aG) qG.res (kT (aT [aj]) YQ []))
noncomputable def VH (N : Nat) (n : Nat) : St → Option Int := fun S' => iter [] (bH qG 0) (code (ahL N) (bY qG.body 0 0) 0) n S' (bg (ahL N) qG.body 0 0 ark)
noncomputable def Kr (N : Nat) (b : Book) (number : Int) (n : Nat) : Int → Option Int := fun i5 => VH N n (afu b number i5)
theorem acp (N : Nat) : Kr N = V6 N := funext fun b => funext fun number => funext (bz (by kernel_rfl) fun n => by
 show _ = ED N b number (Kr N b number n)
 kernel_rfl)
theorem adQ (N : Nat) (b : Book) (number : Int) : aV (aT [aj]) (ay aG) (aU (Ae N)) aX N qG YQ [⟨aA, b⟩, ⟨aj, number⟩] = F.QM N b number := by
 show _ = F.afW N (F.V6 N) b number
 rw [← acp N]
 kernel_rfl
def xY (N : Nat) : ax := aF [.d aA true, .d aj false] false [.d aj false] [aj] (F.QM N)
theorem y_ (N : Nat) : au Tryz.prog 66 (xY N) := aJ (N := N) bf mixed (ah (l := Ae N) trivial) (aC _) aoh (by decide) fun b number => adQ N b number
def anN : Nat → Option Ann
 | 0 => some ⟨⟨[(0, kp), (1, kp), (5, kp)], [], []⟩, [(0, ⟨[], [], []⟩)], ⟨[(4, kp)], [], []⟩⟩
 | _ => none
noncomputable def o5 : FI := ⟨Tryz.f144.results.toList, aK Tryz.f144.body, Tryz.f144.ntmps, anN⟩
theorem amk : bI Tryz.prog 144 o5 := ⟨⟨Tryz.f144, Tryz.func144, by kernel_rfl, rfl, rfl, by kernel_rfl⟩, by kernel_rfl⟩
def Ar (N : Nat) : List (Nat × ax) := []
def XC : ax := a_ [.d ai false, .d ai false] false [.d (.bool) false]
def af1 (a : List Txt) (b : List Txt) (i5 : Int) : St := ⟨[(0, vv ai a), (1, vv ai b), (5, vv aj i5)], []⟩
noncomputable def afI (N : Nat) : Env := bQ (ay aG) (aU (Ar N)) aX N o5 []
noncomputable def arc := (dE (ay aG) o5.res (kT (aT [.bool]) XC []))
noncomputable def TY (N : Nat) (n : Nat) : St → Option Bool := fun S' => iter [] (bH o5 0) (code (afI N) (bY o5.body 0 0) 0) n S' (bg (afI N) o5.body 0 0 arc)
noncomputable def Nj (N : Nat) (a : List Txt) (b : List Txt) (n : Nat) : Int → Option Bool := fun i5 => TY N n (af1 a b i5)
theorem abR (N : Nat) : Nj N = Uj N := funext fun a => funext fun b => funext (bz (by kernel_rfl) fun n => by
 show _ = Ej N a b (Nj N a b n)
 kernel_rfl)
theorem ahe (N : Nat) (a : List Txt) (b : List Txt) : aV (aT [.bool]) (ay aG) (aU (Ar N)) aX N o5 XC [⟨ai, a⟩, ⟨ai, b⟩] = F.Ub N a b := by
 show _ = F.aj1 N (F.Uj N) a b
 rw [← abR N]
 kernel_rfl
def ZX (N : Nat) : ax := aF [.d ai false, .d ai false] false [.d (.bool) false] [.bool] (F.Ub N)
theorem agU (N : Nat) : au Tryz.prog 144 (ZX N) := aJ (N := N) bf mixed (ah (l := Ar N) trivial) (aC _) amk (by decide) fun a b => ahe N a b
def alG : Nat → Option Ann
 | 0 => some ⟨⟨[(2, kp), (3, kp), (5, kp)], [(2, [kp, kp, kp, kp, kp, kp]), (3, [kp, kp, kp, kp, kp, kp])], []⟩, [(0, ⟨[], [], []⟩)], ⟨[(4, kp)], [], []⟩⟩
 | _ => none
noncomputable def o8 : FI := ⟨Tryz.f102.results.toList, aK Tryz.f102.body, Tryz.f102.ntmps, alG⟩
theorem amE : bI Tryz.prog 102 o8 := ⟨⟨Tryz.f102, Tryz.func102, by kernel_rfl, rfl, rfl, by kernel_rfl⟩, by kernel_rfl⟩
def CW (N : Nat) : List (Nat × ax) := [(144, ZX N)]
def Xh : ax := a_ [.d aO true, .d aO true] false [.d (.bool) false]
def ahW (a : Want) (b : Want) (i5 : Int) : St := ⟨[(2, vb 2), (3, vb 3), (5, vv aj i5)], [(2, .box [.v aj a.1, .v aj a.2.1, .v ai a.2.2.1, .v bM.slice a.2.2.2.1, .v ai a.2.2.2.2.1, .v ai a.2.2.2.2.2]), (3, .box [.v aj b.1, .v aj b.2.1, .v ai b.2.2.1, .v bM.slice b.2.2.2.1, .v ai b.2.2.2.2.1, .v ai b.2.2.2.2.2])]⟩
noncomputable def ako (N : Nat) : Env := bQ (ay aG) (aU (CW N)) aX N o8 []
noncomputable def arj := (dE (ay aG) o8.res (kT (aT [.bool]) Xh []))
noncomputable def Uu (N : Nat) (n : Nat) : St → Option Bool := fun S' => iter [] (bH o8 0) (code (ako N) (bY o8.body 0 0) 0) n S' (bg (ako N) o8.body 0 0 arj)
noncomputable def Na (N : Nat) (a : Want) (b : Want) (n : Nat) : Int → Option Bool := fun i5 => Uu N n (ahW a b i5)
theorem acv (N : Nat) : Na N = Ox N := funext fun a => funext fun b => funext (bz (by kernel_rfl) fun n => by
 show _ = Fz N a b (Na N a b n)
 kernel_rfl)
theorem aiw (N : Nat) (a : Want) (b : Want) : aV (aT [.bool]) (ay aG) (aU (CW N)) aX N o8 Xh [⟨aO, a⟩, ⟨aO, b⟩] = F.abm N a b := by
 show _ = F.adw N (F.Ox N) a b
 rw [← acv N]
 kernel_rfl
def YP (N : Nat) : ax := aF [.d aO true, .d aO true] false [.d (.bool) false] [.bool] (F.abm N)
theorem adR (N : Nat) : au Tryz.prog 102 (YP N) := aJ (N := N) bf mixed (ah (l := CW N) (aN rfl (agU N) trivial)) (aC _) amE (by decide) fun a b => aiw N a b
def anj : Nat → Option Ann
 | 0 => some ⟨⟨[(1, kp), (2, kp), (3, kp), (7, kp)], [(3, [kp, kp, kp, kp, kp])], []⟩, [(0, ⟨[], [], []⟩)], ⟨[(6, kp)], [], []⟩⟩
 | _ => none
noncomputable def oQ : FI := ⟨Tryz.f145.results.toList, aK Tryz.f145.body, Tryz.f145.ntmps, anj⟩
theorem alh : bI Tryz.prog 145 oQ := ⟨⟨Tryz.f145, Tryz.func145, by kernel_rfl, rfl, rfl, by kernel_rfl⟩, by kernel_rfl⟩
def Ce (N : Nat) : List (Nat × ax) := [(141, Oo N)]
def YB : ax := a_ [.d aA true, .d ai false, .d ai false] false [.d (.bool) false]
def akB (b : Book) (x : List Txt) (y : List Txt) (i7 : Int) : St := ⟨[(1, vv ai x), (2, vv ai y), (3, vb 3), (7, vv aj i7)], [(3, .box [.v bT.slice b.1, .v aZ.slice b.2.1, .v ai b.2.2.1, .v bi.slice b.2.2.2.1, .v aj b.2.2.2.2])]⟩
noncomputable def agE (N : Nat) : Env := bQ (ay aG) (aU (Ce N)) aX N oQ []
noncomputable def aqK := (dE (ay aG) oQ.res (kT (aT [.bool]) YB []))
noncomputable def V3 (N : Nat) (n : Nat) : St → Option Bool := fun S' => iter [] (bH oQ 0) (code (agE N) (bY oQ.body 0 0) 0) n S' (bg (agE N) oQ.body 0 0 aqK)
noncomputable def Jy (N : Nat) (b : Book) (x : List Txt) (y : List Txt) (n : Nat) : Int → Option Bool := fun i7 => V3 N n (akB b x y i7)
theorem aa0 (N : Nat) : Jy N = UG N := funext fun b => funext fun x => funext fun y => funext (bz (by kernel_rfl) fun n => by
 show _ = Ei N b x y (Jy N b x y n)
 kernel_rfl)
theorem ahI (N : Nat) (b : Book) (x : List Txt) (y : List Txt) : aV (aT [.bool]) (ay aG) (aU (Ce N)) aX N oQ YB [⟨aA, b⟩, ⟨ai, x⟩, ⟨ai, y⟩] = F.Us N b x y := by
 show _ = F.ad3 N (F.UG N) b x y
 rw [← aa0 N]
 kernel_rfl
def Y9 (N : Nat) : ax := aF [.d aA true, .d ai false, .d ai false] false [.d (.bool) false] [.bool] (F.Us N)
theorem ajm (N : Nat) : au Tryz.prog 145 (Y9 N) := aJ (N := N) bf mixed (ah (l := Ce N) (aN rfl (Si N) trivial)) (aC _) alh (by decide) fun b x y => ahI N b x y
def amj : Nat → Option Ann
 | 0 => some ⟨⟨[(0, kp), (1, kp), (5, kp), (6, kp)], [], []⟩, [(0, ⟨[(5, kp)], [], []⟩)], ⟨[], [], []⟩⟩
 | _ => none
noncomputable def rq : FI := ⟨Tryz.f147.results.toList, aK Tryz.f147.body, Tryz.f147.ntmps, amj⟩
theorem alu : bI Tryz.prog 147 rq := ⟨⟨Tryz.f147, Tryz.func147, by kernel_rfl, rfl, rfl, by kernel_rfl⟩, by kernel_rfl⟩
def BV (N : Nat) : List (Nat × ax) := [(72, lN N)]
def XT : ax := a_ [.d ai false, .d ai false] false [.d aj false]
def afJ (a : List Txt) (b : List Txt) (n5 : Int) (i6 : Int) : St := ⟨[(0, vv ai a), (1, vv ai b), (5, vv aj n5), (6, vv aj i6)], []⟩
noncomputable def ac6 (N : Nat) : Env := bQ (ay aG) (aU (BV N)) aX N rq []
noncomputable def aqu := (dE (ay aG) rq.res (kT (aT [aj]) XT []))
noncomputable def UI (N : Nat) (n : Nat) : St → Option Int := fun S' => iter [] (bH rq 0) (code (ac6 N) (bY rq.body 0 0) 0) n S' (bg (ac6 N) rq.body 0 0 aqu)
noncomputable def Ky (N : Nat) (a : List Txt) (b : List Txt) (n : Nat) : Int → Int → Option Int := fun n5 i6 => UI N n (afJ a b n5 i6)
theorem ab9 (N : Nat) : Ky N = WP N := funext fun a => funext fun b => funext (bz (by kernel_rfl) fun n => by
 show _ = yu N a b (Ky N a b n)
 kernel_rfl)
theorem ag6 (N : Nat) (a : List Txt) (b : List Txt) : aV (aT [aj]) (ay aG) (aU (BV N)) aX N rq XT [⟨ai, a⟩, ⟨ai, b⟩] = F.Rk N a b := by
 show _ = F.aip N (F.WP N) a b
 rw [← ab9 N]
 kernel_rfl
def Y3 (N : Nat) : ax := aF [.d ai false, .d ai false] false [.d aj false] [aj] (F.Rk N)
theorem ahR (N : Nat) : au Tryz.prog 147 (Y3 N) := aJ (N := N) bf mixed (ah (l := BV N) (aN rfl (kU N) trivial)) (aC _) alu (by decide) fun a b => ag6 N a b
def anO : Nat → Option Ann
 | 0 => some ⟨⟨[(2, kp), (3, kp), (5, kp)], [(2, [kp, kp, kp, kp, kp]), (3, [kp, kp, kp, kp, kp, kp])], []⟩, [(0, ⟨[], [], []⟩)], ⟨[(4, kp)], [], []⟩⟩
 | _ => none
noncomputable def qj : FI := ⟨Tryz.f106.results.toList, aK Tryz.f106.body, Tryz.f106.ntmps, anO⟩
theorem aof : bI Tryz.prog 106 qj := ⟨⟨Tryz.f106, Tryz.func106, by kernel_rfl, rfl, rfl, by kernel_rfl⟩, by kernel_rfl⟩
def AX (N : Nat) : List (Nat × ax) := [(145, Y9 N), (70, lZ N), (146, IZ N), (147, Y3 N)]
def WY : ax := a_ [.d aA true, .d aO true] false [.d aj false]
def akt (b : Book) (w : Want) (i5 : Int) : St := ⟨[(2, vb 2), (3, vb 3), (5, vv aj i5)], [(2, .box [.v bT.slice b.1, .v aZ.slice b.2.1, .v ai b.2.2.1, .v bi.slice b.2.2.2.1, .v aj b.2.2.2.2]), (3, .box [.v aj w.1, .v aj w.2.1, .v ai w.2.2.1, .v bM.slice w.2.2.2.1, .v ai w.2.2.2.2.1, .v ai w.2.2.2.2.2])]⟩
noncomputable def afS (N : Nat) : Env := bQ (ay aG) (aU (AX N)) aX N qj []
noncomputable def aqJ := (dE (ay aG) qj.res (kT (aT [aj]) WY []))
noncomputable def VP (N : Nat) (n : Nat) : St → Option Int := fun S' => iter [] (bH qj 0) (code (afS N) (bY qj.body 0 0) 0) n S' (bg (afS N) qj.body 0 0 aqJ)
noncomputable def KL (N : Nat) (b : Book) (w : Want) (n : Nat) : Int → Option Int := fun i5 => VP N n (akt b w i5)
theorem aaN (N : Nat) : KL N = O3 N := funext fun b => funext fun w => funext (bz (by kernel_rfl) fun n => by
 show _ = yZ N b w (KL N b w n)
 kernel_rfl)
theorem adr (N : Nat) (b : Book) (w : Want) : aV (aT [aj]) (ay aG) (aU (AX N)) aX N qj WY [⟨aA, b⟩, ⟨aO, w⟩] = F.aiU N b w := by
 show _ = F.ael N (F.O3 N) b w
 rw [← aaN N]
 kernel_rfl
def Yd (N : Nat) : ax := aF [.d aA true, .d aO true] false [.d aj false] [aj] (F.aiU N)
theorem agq (N : Nat) : au Tryz.prog 106 (Yd N) := aJ (N := N) bf mixed (ah (l := AX N) (aN rfl (ajm N) (aN rfl (kZ N) (aN rfl (LV N) (aN rfl (ahR N) trivial))))) (aC _) aof (by decide) fun b w => adr N b w
def alQ : Nat → Option Ann
 | 0 => some ⟨⟨[(2, kp), (3, kp), (5, kp)], [(2, [kp, kp, kp, kp, kp]), (3, [kp, kp, kp, kp, kp, kp])], []⟩, [(0, ⟨[], [], []⟩)], ⟨[(4, kp)], [], []⟩⟩
 | _ => none
noncomputable def rC : FI := ⟨Tryz.f107.results.toList, aK Tryz.f107.body, Tryz.f107.ntmps, alQ⟩
theorem aly : bI Tryz.prog 107 rC := ⟨⟨Tryz.f107, Tryz.func107, by kernel_rfl, rfl, rfl, by kernel_rfl⟩, by kernel_rfl⟩
def Ah (N : Nat) : List (Nat × ax) := [(70, lZ N)]
def Xg : ax := a_ [.d aA true, .d aO true] false [.d aj false]
def akD (b : Book) (w : Want) (i5 : Int) : St := ⟨[(2, vb 2), (3, vb 3), (5, vv aj i5)], [(2, .box [.v bT.slice b.1, .v aZ.slice b.2.1, .v ai b.2.2.1, .v bi.slice b.2.2.2.1, .v aj b.2.2.2.2]), (3, .box [.v aj w.1, .v aj w.2.1, .v ai w.2.2.1, .v bM.slice w.2.2.2.1, .v ai w.2.2.2.2.1, .v ai w.2.2.2.2.2])]⟩
noncomputable def aeW (N : Nat) : Env := bQ (ay aG) (aU (Ah N)) aX N rC []
noncomputable def ap7 := (dE (ay aG) rC.res (kT (aT [aj]) Xg []))
noncomputable def Va (N : Nat) (n : Nat) : St → Option Int := fun S' => iter [] (bH rC 0) (code (aeW N) (bY rC.body 0 0) 0) n S' (bg (aeW N) rC.body 0 0 ap7)
noncomputable def L9 (N : Nat) (b : Book) (w : Want) (n : Nat) : Int → Option Int := fun i5 => Va N n (akD b w i5)
theorem acI (N : Nat) : L9 N = VX N := funext fun b => funext fun w => funext (bz (by kernel_rfl) fun n => by
 show _ = E_ N b w (L9 N b w n)
 kernel_rfl)
theorem ahE (N : Nat) (b : Book) (w : Want) : aV (aT [aj]) (ay aG) (aU (Ah N)) aX N rC Xg [⟨aA, b⟩, ⟨aO, w⟩] = F.aeZ N b w := by
 show _ = F.afq N (F.VX N) b w
 rw [← acI N]
 kernel_rfl
def YT (N : Nat) : ax := aF [.d aA true, .d aO true] false [.d aj false] [aj] (F.aeZ N)
theorem aew (N : Nat) : au Tryz.prog 107 (YT N) := aJ (N := N) bf mixed (ah (l := Ah N) (aN rfl (kZ N) trivial)) (aC _) aly (by decide) fun b w => ahE N b w
def aoe : Nat → Option Ann
 | 0 => some ⟨⟨[(2, kp), (3, kp), (6, kp)], [(2, [kp, kp, kp, kp, kp]), (3, [kp, kp, kp, kp, kp, kp])], []⟩, [(0, ⟨[(2, kp), (3, kp)], [(2, [kp, kp, kp, kp, kp]), (3, [kp, kp, kp, kp, kp, kp])], []⟩)], ⟨[(4, kp)], [], []⟩⟩
 | 2 => some ⟨⟨[(2, kp), (3, kp), (7, kp)], [(2, [kp, kp, kp, kp, kp]), (3, [kp, kp, kp, kp, kp, kp])], []⟩, [(2, ⟨[(2, kp), (3, kp)], [(2, [kp, kp, kp, kp, kp]), (3, [kp, kp, kp, kp, kp, kp])], []⟩)], ⟨[(4, kp)], [], []⟩⟩
 | _ => none
noncomputable def jL : FI := ⟨Tryz.f64.results.toList, aK Tryz.f64.body, Tryz.f64.ntmps, aoe⟩
theorem anm : bI Tryz.prog 64 jL := ⟨⟨Tryz.f64, Tryz.func64, by kernel_rfl, rfl, rfl, by kernel_rfl⟩, by kernel_rfl⟩
def Ai (N : Nat) : List (Nat × ax) := [(63, pK N), (100, Ou N), (101, O_ N), (66, xY N), (102, YP N), (104, N_ N), (103, xQ N), (105, N7 N), (106, Yd N), (107, YT N)]
def Zr : ax := a_ [.d aA true, .d aO true] false [.d aj false]
def ajn (b : Book) (w : Want) (i7 : Int) : St := ⟨[(2, vb 2), (3, vb 3), (7, vv aj i7)], [(2, .box [.v bT.slice b.1, .v aZ.slice b.2.1, .v ai b.2.2.1, .v bi.slice b.2.2.2.1, .v aj b.2.2.2.2]), (3, .box [.v aj w.1, .v aj w.2.1, .v ai w.2.2.1, .v bM.slice w.2.2.2.1, .v ai w.2.2.2.2.1, .v ai w.2.2.2.2.2])]⟩
def akF (b : Book) (w : Want) (i6 : Int) : St := ⟨[(2, vb 2), (3, vb 3), (6, vv aj i6)], [(2, .box [.v bT.slice b.1, .v aZ.slice b.2.1, .v ai b.2.2.1, .v bi.slice b.2.2.2.1, .v aj b.2.2.2.2]), (3, .box [.v aj w.1, .v aj w.2.1, .v ai w.2.2.1, .v bM.slice w.2.2.2.1, .v ai w.2.2.2.2.1, .v ai w.2.2.2.2.2])]⟩
noncomputable def O7 (N : Nat) : Env := bQ (ay aG) (aU (Ai N)) aX N jL []
noncomputable def aer := (dE (ay aG) jL.res (kT (aT [aj]) Zr []))
noncomputable def Vs (N : Nat) (n : Nat) : St → Option Int := fun S' => iter [] (bH jL 2) (code (O7 N) (bY jL.body 0 2) 2) n S' (bg (O7 N) jL.body 0 2 aer)
noncomputable def zB (N : Nat) (b : Book) (w : Want) (n : Nat) : Int → Option Int := fun i7 => Vs N n (ajn b w i7)
theorem ab8 (N : Nat) : zB N = FU N := funext fun b => funext fun w => funext (bz (by kernel_rfl) fun n => by
 show _ = Fe N b w (zB N b w n)
 kernel_rfl)
noncomputable def UA (N : Nat) (n : Nat) : St → Option Int := fun S' => iter [] (bH jL 0) (code (O7 N) (bY jL.body 0 0) 0) n S' (bg (O7 N) jL.body 0 0 aer)
noncomputable def J3 (N : Nat) (b : Book) (w : Want) (n : Nat) : Int → Option Int := fun i6 => UA N n (akF b w i6)
theorem acL (N : Nat) : J3 N = Vm N := funext fun b => funext fun w => funext (bz (by kernel_rfl) fun n => by
 show _ = EF N (FU N) b w (J3 N b w n)
 rw [show FU N = zB N from (ab8 N).symm]
 kernel_rfl)
theorem agC (N : Nat) (b : Book) (w : Want) : aV (aT [aj]) (ay aG) (aU (Ai N)) aX N jL Zr [⟨aA, b⟩, ⟨aO, w⟩] = F.akk N b w := by
 show _ = F.aiF N (F.Vm N) b w
 rw [← acL N]
 kernel_rfl
def XH (N : Nat) : ax := aF [.d aA true, .d aO true] false [.d aj false] [aj] (F.akk N)
theorem ajd (N : Nat) : au Tryz.prog 64 (XH N) := aJ (N := N) bf mixed (ah (l := Ai N) (aN rfl (ou N) (aN rfl (RD N) (aN rfl (Rw N) (aN rfl (y_ N) (aN rfl (adR N) (aN rfl (Tq N) (aN rfl (yc N) (aN rfl (PY N) (aN rfl (agq N) (aN rfl (aew N) trivial))))))))))) (aC _) anm (by decide) fun b w => agC N b w
def ak9 : Nat → Option Ann
 | 0 => some ⟨⟨[(0, kp), (1, kp), (5, kp)], [], []⟩, [(0, ⟨[(0, kp), (1, kp), (5, kp)], [], []⟩)], ⟨[], [], []⟩⟩
 | _ => none
noncomputable def ry : FI := ⟨Tryz.f94.results.toList, aK Tryz.f94.body, Tryz.f94.ntmps, ak9⟩
theorem anh : bI Tryz.prog 94 ry := ⟨⟨Tryz.f94, Tryz.func94, by kernel_rfl, rfl, rfl, by kernel_rfl⟩, by kernel_rfl⟩
def BG (N : Nat) : List (Nat × ax) := []
def YS : ax := a_ [.d ai false, .d (.str) false] true [.d ai false]
def agy (list : List Txt) (name : Txt) (k5 : Int) : St := ⟨[(0, vv ai list), (1, vv Ty.str name), (5, vv aj k5)], []⟩
noncomputable def ade (N : Nat) : Env := bQ (ay aG) (aU (BG N)) aX N ry []
noncomputable def ap0 := (dE (ay aG) ry.res (kT (aT [ai]) YS []))
noncomputable def WN (N : Nat) (n : Nat) : St → Option (List Txt) := fun S' => iter [] (bH ry 0) (code (ade N) (bY ry.body 0 0) 0) n S' (bg (ade N) ry.body 0 0 ap0)
noncomputable def JZ (N : Nat) (list : List Txt) (name : Txt) (n : Nat) : Int → Option (List Txt) := fun k5 => WN N n (agy list name k5)
theorem abO (N : Nat) : JZ N = VU N := funext fun list => funext fun name => funext (bz (by kernel_rfl) fun n => by
 show _ = y5 N list name (JZ N list name n)
 kernel_rfl)
theorem adY (N : Nat) (list : List Txt) (name : Txt) : aV (aT [ai]) (ay aG) (aU (BG N)) aX N ry YS [⟨ai, list⟩, ⟨.str, name⟩] = F.akH N list name := by
 show _ = F.af_ N (F.VU N) list name
 rw [← abO N]
 kernel_rfl
def Xx (N : Nat) : ax := aF [.d ai false, .d (.str) false] true [.d ai false] [ai] (F.akH N)
theorem adJ (N : Nat) : au Tryz.prog 94 (Xx N) := aJ (N := N) bf mixed (ah (l := BG N) trivial) (aC _) anh (by decide) fun list name => adY N list name
def ahh : Nat → Option Ann
 | 0 => some ⟨⟨[(2, kp), (3, kp), (4, kp), (5, kp)], [(2, [.own 1000200 44 bT, .own 1000201 46 aZ, .own 1000202 9 Ty.str, Dir.dow 1000203 91 [9, 101, 9, 9] bi, kp]), (3, [kp, kp, kp, kp, kp, kp]), (4, [kp, kp, kp, kp, kp])], []⟩, [(0, ⟨[(2, kp), (3, kp), (4, kp)], [(2, [.own 1000200 44 bT, .own 1000201 46 aZ, .own 1000202 9 Ty.str, Dir.dow 1000203 91 [9, 101, 9, 9] bi, kp]), (3, [kp, kp, kp, kp, kp, kp]), (4, [kp, kp, kp, kp, kp])], []⟩)], ⟨[], [], []⟩⟩
 | 2 => some ⟨⟨[(2, kp), (3, kp), (4, kp), (5, kp), (6, kp), (7, kp), (8, kp)], [(2, [.own 1000200 44 bT, .own 1000201 46 aZ, .own 1000202 9 Ty.str, Dir.dow 1000203 91 [9, 101, 9, 9] bi, kp]), (3, [kp, kp, kp, kp, kp, kp]), (4, [kp, kp, kp, kp, kp]), (6, [kp, kp, kp])], []⟩, [(2, ⟨[(2, kp), (3, kp), (4, kp), (5, kp)], [(2, [.own 1000200 44 bT, .own 1000201 46 aZ, .own 1000202 9 Ty.str, Dir.dow 1000203 91 [9, 101, 9, 9] bi, kp]), (3, [kp, kp, kp, kp, kp, kp]), (4, [kp, kp, kp, kp, kp])], []⟩)], ⟨[], [], []⟩⟩
 | _ => none
noncomputable def gz : FI := ⟨Tryz.f67.results.toList, aK Tryz.f67.body, Tryz.f67.ntmps, ahh⟩
theorem ajR : bI Tryz.prog 67 gz := ⟨⟨Tryz.f67, Tryz.func67, by kernel_rfl, rfl, rfl, by kernel_rfl⟩, by kernel_rfl⟩
def vN (N : Nat) : List (Nat × ax) := [(70, lZ N), (94, Xx N), (60, Pv N)]
def RV : ax := a_ [.sp [.mv 44 bT none, .mv 46 aZ (some [9]), .mv 9 (.str) none, .mv 91 bi (some [9, 101, 9, 9]), .dd aj], .d aO true] true [.own aA true [(44, none), (46, none), (9, none), (91, (some [9, 101, 9, 9]))]]
def aaq (b0 : List Foe) (b2 : List Txt) (b3 : List Part) (b4 : Int) (w : Want) (t4c4 : Int) (i5 : Int) (r_4 : Int) (u6c0_1 : Txt) (u6c1_1 : Int) (u6c2_1 : Int) (n8_1 : Int) (b2c1a_2 : List aP) : St := ⟨[(2, vb 2), (3, vb 3), (4, vb 4), (5, vv aj i5), (6, vb 6), (7, vv aj r_4), (8, vv aj n8_1)], [(2, .box [.arr 1000200, .arr 1000201, .arr 1000202, .arr 1000203, .v aj b4]), (3, .box [.v aj w.1, .v aj w.2.1, .v ai w.2.2.1, .v bM.slice w.2.2.2.1, .v ai w.2.2.2.2.1, .v ai w.2.2.2.2.2]), (4, .box [.emp, .emp, .emp, .emp, .v aj t4c4]), (6, .box [.v Ty.str u6c0_1, .v aj u6c1_1, .v aj u6c2_1]), (1000200, .arr 44 bT b0), (1000201, .arr 46 aZ b2c1a_2), (1000202, .arr 9 Ty.str b2), (1000203, .arr 91 bi b3 (Dp.yes [9, 101, 9, 9]))]⟩
def Bl (b0 : List Foe) (b2 : List Txt) (b3 : List Part) (b4 : Int) (w : Want) (t4c4 : Int) (i5 : Int) (b2c1a : List aP) : St := ⟨[(2, vb 2), (3, vb 3), (4, vb 4), (5, vv aj i5)], [(2, .box [.arr 1000200, .arr 1000201, .arr 1000202, .arr 1000203, .v aj b4]), (3, .box [.v aj w.1, .v aj w.2.1, .v ai w.2.2.1, .v bM.slice w.2.2.2.1, .v ai w.2.2.2.2.1, .v ai w.2.2.2.2.2]), (4, .box [.emp, .emp, .emp, .emp, .v aj t4c4]), (1000200, .arr 44 bT b0), (1000201, .arr 46 aZ b2c1a), (1000202, .arr 9 Ty.str b2), (1000203, .arr 91 bi b3 (Dp.yes [9, 101, 9, 9]))]⟩
noncomputable def yO (N : Nat) : Env := bQ (ay aG) (aU (vN N)) aX N gz []
noncomputable def YR := (dE (ay aG) gz.res (kT (aT [aA]) RV [(600000, .mv 44 bT none), (600001, .mv 46 aZ (some [9])), (600002, .mv 9 (.str) none), (600003, .mv 91 bi (some [9, 101, 9, 9]))]))
noncomputable def Sr (N : Nat) (nxS0 : St → Option Book) (n : Nat) : St → Option Book := fun S' => iter [] (bH gz 2) (code (yO N) (bY (bY gz.body 0 0) 0 2) 2) n S' (bg (yO N) (bY gz.body 0 0) 0 2 (KX [] (bH gz 0) nxS0 (bg (yO N) gz.body 0 0 YR)))
noncomputable def v_ (N : Nat) (nxS0 : St → Option Book) (b0 : List Foe) (b2 : List Txt) (b3 : List Part) (b4 : Int) (w : Want) (t4c4 : Int) (i5 : Int) (r_4 : Int) (u6c0_1 : Txt) (u6c1_1 : Int) (u6c2_1 : Int) (n : Nat) : Int → (List aP) → Option Book := fun n8_1 b2c1a_2 => Sr N nxS0 n (aaq b0 b2 b3 b4 w t4c4 i5 r_4 u6c0_1 u6c1_1 u6c2_1 n8_1 b2c1a_2)
theorem Wh (N : Nat) (nxS0 : St → Option Book) (b0 : List Foe) (b2 : List Txt) (b3 : List Part) (b4 : Int) (w : Want) (t4c4 : Int) : v_ N nxS0 b0 b2 b3 b4 w t4c4 = mD N (fun i5 b2c1a => nxS0 (Bl b0 b2 b3 b4 w t4c4 i5 b2c1a)) b0 b2 b3 b4 w t4c4 := funext fun i5 => funext fun r_4 => funext fun u6c0_1 => funext fun u6c1_1 => funext fun u6c2_1 => funext (bz (by kernel_rfl) fun n => by
 show _ = nS N (fun i5 b2c1a => nxS0 (Bl b0 b2 b3 b4 w t4c4 i5 b2c1a)) b0 b2 b3 b4 w t4c4 i5 r_4 u6c0_1 u6c1_1 u6c2_1 (v_ N nxS0 b0 b2 b3 b4 w t4c4 i5 r_4 u6c0_1 u6c1_1 u6c2_1 n)
 kernel_rfl)
noncomputable def rU (N : Nat) (n : Nat) : St → Option Book := fun S' => iter [] (bH gz 0) (code (yO N) (bY gz.body 0 0) 0) n S' (bg (yO N) gz.body 0 0 YR)
noncomputable def qW (N : Nat) (b0 : List Foe) (b2 : List Txt) (b3 : List Part) (b4 : Int) (w : Want) (t4c4 : Int) (n : Nat) : Int → (List aP) → Option Book := fun i5 b2c1a => rU N n (Bl b0 b2 b3 b4 w t4c4 i5 b2c1a)
theorem Wl (N : Nat) : qW N = NM N := funext fun b0 => funext fun b2 => funext fun b3 => funext fun b4 => funext fun w => funext fun t4c4 => funext (bz (by kernel_rfl) fun n => by
 show _ = sQ N (mD N (qW N b0 b2 b3 b4 w t4c4 n) b0 b2 b3 b4 w t4c4) b0 b2 b3 b4 w t4c4 (qW N b0 b2 b3 b4 w t4c4 n)
 rw [show mD N (qW N b0 b2 b3 b4 w t4c4 n) b0 b2 b3 b4 w t4c4 = v_ N (rU N n) b0 b2 b3 b4 w t4c4 from (Wh N (rU N n) b0 b2 b3 b4 w t4c4).symm]
 kernel_rfl)
theorem acO (N : Nat) (b0 : List Foe) (b1 : List aP) (b2 : List Txt) (b3 : List Part) (b4 : Int) (w : Want) : aV (aT [aA]) (ay aG) (aU (vN N)) aX N gz RV [⟨.slice bT, b0⟩, ⟨.slice aZ, b1⟩, ⟨ai, b2⟩, ⟨.slice bi, b3⟩, ⟨aj, b4⟩, ⟨aO, w⟩] = F.Ru N b0 b1 b2 b3 b4 w := by
 show _ = F.U1 N (F.NM N) b0 b1 b2 b3 b4 w
 rw [← Wl N]
 kernel_rfl
def Rz (N : Nat) : ax := aF [.sp [.mv 44 bT none, .mv 46 aZ (some [9]), .mv 9 (.str) none, .mv 91 bi (some [9, 101, 9, 9]), .dd aj], .d aO true] true [.own aA true [(44, none), (46, none), (9, none), (91, (some [9, 101, 9, 9]))]] [aA] (F.Ru N)
theorem aat (N : Nat) : au Tryz.prog 67 (Rz N) := aJ (N := N) bf mixed (ah (l := vN N) (aN rfl (kZ N) (aN rfl (adJ N) (aN rfl (Qi N) trivial)))) (aC _) ajR (by decide) fun b0 b1 b2 b3 b4 w => acO N b0 b1 b2 b3 b4 w
def amS : Nat → Option Ann := fun _ => none
noncomputable def X6 : FI := ⟨Tryz.f29.results.toList, aK Tryz.f29.body, Tryz.f29.ntmps, amS⟩
theorem ak2 : bI Tryz.prog 29 X6 := ⟨⟨Tryz.f29, Tryz.func29, by kernel_rfl, rfl, rfl, by kernel_rfl⟩, by kernel_rfl⟩
def KP (N : Nat) : List (Nat × ax) := [(64, XH N), (25, qE N), (65, jQ N), (66, xY N), (67, Rz N)]
def anf : ax := a_ [.d aA true, .d aO true] false [.own aA true [(44, none), (46, (some [9])), (9, none), (91, (some [9, 101, 9, 9]))], .d aj false]
theorem adP (N : Nat) (b : Book) (w : Want) : aV (aT [aA, aj]) (ay aG) (aU (KP N)) aX N X6 anf [⟨aA, b⟩, ⟨aO, w⟩] = F.U7 N b w := by kernel_rfl
def YV (N : Nat) : ax := aF [.d aA true, .d aO true] false [.own aA true [(44, none), (46, (some [9])), (9, none), (91, (some [9, 101, 9, 9]))], .d aj false] [aA, aj] (F.U7 N)
theorem aht (N : Nat) : au Tryz.prog 29 (YV N) := aJ (N := N) bf mixed (ah (l := KP N) (aN rfl (ajd N) (aN rfl (nN N) (aN rfl (jy N) (aN rfl (y_ N) (aN rfl (aat N) trivial)))))) (aC _) ak2 (by decide) fun b w => adP N b w
def afy : Nat → Option Ann := fun _ => none
noncomputable def H8 : FI := ⟨Tryz.f14.results.toList, aK Tryz.f14.body, Tryz.f14.ntmps, afy⟩
theorem Qo : bI Tryz.prog 14 H8 := ⟨⟨Tryz.f14, Tryz.func14, by kernel_rfl, rfl, rfl, by kernel_rfl⟩, by kernel_rfl⟩
def JI (N m : Nat) : ax := aF [.d aj false] false [.d (.str) false] [.str] (F.ni N m)
def rY (N : Nat) : ax := aF [.d aj false] false [.d (.str) false] [.str] (F.uX N)
def Di (N : Nat) : List (Nat × ax) := []
def Dk (N m : Nat) : List (Nat × ax) := [(14, JI N m)]
def Qc : ax := a_ [.d aj false] false [.d (.str) false]
theorem WF (N : Nat) (n : Int) : aV (aT [.str]) (ay aG) (aU (Di N)) aX N H8 Qc [⟨aj, n⟩] = F.ni N 0 n := by kernel_rfl
theorem VS (N m : Nat) (n : Int) : aV (aT [.str]) (ay aG) (aU (Dk N m)) aX N H8 Qc [⟨aj, n⟩] = F.ni N (m + 1) n := by kernel_rfl
theorem H5 (N : Nat) : ∀ m, au Tryz.prog 14 (JI N m)
 | 0 => aJ (N := N) bf mixed (ah (l := Di N) trivial) (aC _) Qo (by decide) fun n => WF N n
 | m + 1 => aJ (N := N) bf mixed (ah (l := Dk N m) (aN rfl (H5 N m) trivial)) (aC _) Qo (by decide) fun n => VS N m n
theorem uM (N : Nat) : au Tryz.prog 14 (rY N) := H5 N 64
def aoS : Nat → Option Ann := fun _ => none
noncomputable def Y_ : FI := ⟨Tryz.f28.results.toList, aK Tryz.f28.body, Tryz.f28.ntmps, aoS⟩
theorem ak5 : bI Tryz.prog 28 Y_ := ⟨⟨Tryz.f28, Tryz.func28, by kernel_rfl, rfl, rfl, by kernel_rfl⟩, by kernel_rfl⟩
def Kv (N : Nat) : List (Nat × ax) := [(14, rY N)]
def ano : ax := a_ [.d aA true, .d aj false] true [.d aA true, .d (.str) false]
theorem ajl (N : Nat) (b : Book) (code : Int) : aV (aT [aA, .str]) (ay aG) (aU (Kv N)) aX N Y_ ano [⟨aA, b⟩, ⟨aj, code⟩] = F.BD N b code := by kernel_rfl
def Zo (N : Nat) : ax := aF [.d aA true, .d aj false] true [.d aA true, .d (.str) false] [aA, .str] (F.BD N)
theorem aiv (N : Nat) : au Tryz.prog 28 (Zo N) := aJ (N := N) bf mixed (ah (l := Kv N) (aN rfl (uM N) trivial)) (aC _) ak5 (by decide) fun b code => ajl N b code
def ao_ : Nat → Option Ann := fun _ => none
noncomputable def aac : FI := ⟨Tryz.f31.results.toList, aK Tryz.f31.body, Tryz.f31.ntmps, ao_⟩
theorem ao8 : bI Tryz.prog 31 aac := ⟨⟨Tryz.f31, Tryz.func31, by kernel_rfl, rfl, rfl, by kernel_rfl⟩, by kernel_rfl⟩
def L6 (N : Nat) : List (Nat × ax) := [(63, pK N), (25, qE N), (66, xY N)]
def amV : ax := a_ [.d aA true, .d aj false] false [.own aA true [(44, none), (46, (some [9])), (9, none), (91, (some [9, 101, 9, 9]))], .d aj false]
theorem adU (N : Nat) (b : Book) (number : Int) : aV (aT [aA, aj]) (ay aG) (aU (L6 N)) aX N aac amV [⟨aA, b⟩, ⟨aj, number⟩] = F.acV N b number := by kernel_rfl
def Yr (N : Nat) : ax := aF [.d aA true, .d aj false] false [.own aA true [(44, none), (46, (some [9])), (9, none), (91, (some [9, 101, 9, 9]))], .d aj false] [aA, aj] (F.acV N)
theorem aiA (N : Nat) : au Tryz.prog 31 (Yr N) := aJ (N := N) bf mixed (ah (l := L6 N) (aN rfl (ou N) (aN rfl (nN N) (aN rfl (y_ N) trivial)))) (aC _) ao8 (by decide) fun b number => adU N b number
def anR : Nat → Option Ann
 | 0 => some ⟨⟨[(1, kp), (2, kp), (5, kp)], [(2, [kp, kp, kp, kp, kp, kp])], []⟩, [(0, ⟨[], [], []⟩)], ⟨[(4, kp)], [], []⟩⟩
 | _ => none
noncomputable def o9 : FI := ⟨Tryz.f69.results.toList, aK Tryz.f69.body, Tryz.f69.ntmps, anR⟩
theorem aoG : bI Tryz.prog 69 o9 := ⟨⟨Tryz.f69, Tryz.func69, by kernel_rfl, rfl, rfl, by kernel_rfl⟩, by kernel_rfl⟩
def CU (N : Nat) : List (Nat × ax) := []
def XB : ax := a_ [.d aO true, .d aj false] false [.d (.bool) false]
def adi (w : Want) (moved : Int) (i5 : Int) : St := ⟨[(1, vv aj moved), (2, vb 2), (5, vv aj i5)], [(2, .box [.v aj w.1, .v aj w.2.1, .v ai w.2.2.1, .v bM.slice w.2.2.2.1, .v ai w.2.2.2.2.1, .v ai w.2.2.2.2.2])]⟩
noncomputable def aio (N : Nat) : Env := bQ (ay aG) (aU (CU N)) aX N o9 []
noncomputable def aqh := (dE (ay aG) o9.res (kT (aT [.bool]) XB []))
noncomputable def U4 (N : Nat) (n : Nat) : St → Option Bool := fun S' => iter [] (bH o9 0) (code (aio N) (bY o9.body 0 0) 0) n S' (bg (aio N) o9.body 0 0 aqh)
noncomputable def MR (N : Nat) (w : Want) (moved : Int) (n : Nat) : Int → Option Bool := fun i5 => U4 N n (adi w moved i5)
theorem abd (N : Nat) : MR N = UM N := funext fun w => funext fun moved => funext (bz (by kernel_rfl) fun n => by
 show _ = Ff N w moved (MR N w moved n)
 kernel_rfl)
theorem aey (N : Nat) (w : Want) (moved : Int) : aV (aT [.bool]) (ay aG) (aU (CU N)) aX N o9 XB [⟨aO, w⟩, ⟨aj, moved⟩] = F.aeu N w moved := by
 show _ = F.aem N (F.UM N) w moved
 rw [← abd N]
 kernel_rfl
def WT (N : Nat) : ax := aF [.d aO true, .d aj false] false [.d (.bool) false] [.bool] (F.aeu N)
theorem adX (N : Nat) : au Tryz.prog 69 (WT N) := aJ (N := N) bf mixed (ah (l := CU N) trivial) (aC _) aoG (by decide) fun w moved => aey N w moved
def alm : Nat → Option Ann := fun _ => none
noncomputable def YI : FI := ⟨Tryz.f71.results.toList, aK Tryz.f71.body, Tryz.f71.ntmps, alm⟩
theorem apj : bI Tryz.prog 71 YI := ⟨⟨Tryz.f71, Tryz.func71, by kernel_rfl, rfl, rfl, by kernel_rfl⟩, by kernel_rfl⟩
def Nb (N : Nat) : List (Nat × ax) := []
def alB : ax := a_ [.d aZ true, .d aO true, .d bM true, .d aj false, .d (.bool) false] true [.d aZ true]
theorem aeB (N : Nat) (s : aP) (w : Want) (u : Use) (moved : Int) (done : Bool) : aV (aT [aZ]) (ay aG) (aU (Nb N)) aX N YI alB [⟨aZ, s⟩, ⟨aO, w⟩, ⟨bM, u⟩, ⟨aj, moved⟩, ⟨.bool, done⟩] = F.afD N s w u moved done := by kernel_rfl
def XY (N : Nat) : ax := aF [.d aZ true, .d aO true, .d bM true, .d aj false, .d (.bool) false] true [.d aZ true] [aZ] (F.afD N)
theorem ahK (N : Nat) : au Tryz.prog 71 (XY N) := aJ (N := N) bf mixed (ah (l := Nb N) trivial) (aC _) apj (by decide) fun s w u moved done => aeB N s w u moved done
def ao9 : Nat → Option Ann
 | 0 => some ⟨⟨[(2, kp), (3, kp), (4, kp), (8, kp), (10, kp), (11, kp), (12, kp), (13, kp)], [(4, [kp, kp, kp, kp, kp]), (8, [kp, kp, kp, kp, kp]), (10, [.own 1001000 44 bT, .own 1001001 46 aZ, .own 1001002 9 Ty.str, Dir.frz bi, kp]), (12, [kp, kp, kp, kp, kp, kp])], []⟩, [(0, ⟨[(8, kp), (10, kp), (11, kp)], [(8, [kp, kp, kp, kp, kp]), (10, [.own 1001000 44 bT, .own 1001001 46 aZ, .own 1001002 9 Ty.str, Dir.frz bi, kp])], []⟩)], ⟨[], [], []⟩⟩
 | _ => none
noncomputable def oC : FI := ⟨Tryz.f33.results.toList, aK Tryz.f33.body, Tryz.f33.ntmps, ao9⟩
theorem aoX : bI Tryz.prog 33 oC := ⟨⟨Tryz.f33, Tryz.func33, by kernel_rfl, rfl, rfl, by kernel_rfl⟩, by kernel_rfl⟩
def B_ (N : Nat) : List (Nat × ax) := [(63, pK N), (25, qE N), (66, xY N), (69, WT N), (70, lZ N), (71, XY N)]
def Xa : ax := a_ [.d aA true, .d aj false, .d aj false, .d (.bool) false] false [.own aA true [(44, none), (46, (some [9])), (9, none), (91, (some [9, 101, 9, 9]))], .d aj false]
def aiH (b : Book) (moved : Int) (done : Bool) (r_1 : Book) (r_2 : Int) (t8c4 : Int) (w12c0 : Int) (w12c1 : Int) (w12c2 : List Txt) (w12c3 : List Use) (w12c4 : List Txt) (w12c5 : List Txt) (i13 : Int) (x10c1a : List aP) : St := ⟨[(2, vv aj moved), (3, vv Ty.bool done), (4, vb 4), (8, vb 8), (10, vb 10), (11, vv aj r_2), (12, vb 12), (13, vv aj i13)], [(4, .box [.v bT.slice b.1, .v aZ.slice b.2.1, .v ai b.2.2.1, .v bi.slice b.2.2.2.1, .v aj b.2.2.2.2]), (8, .box [.emp, .emp, .emp, .emp, .v aj t8c4]), (10, .box [.arr 1001000, .arr 1001001, .arr 1001002, .v bi.slice r_1.2.2.2.1, .v aj r_1.2.2.2.2]), (12, .box [.v aj w12c0, .v aj w12c1, .v ai w12c2, .v bM.slice w12c3, .v ai w12c4, .v ai w12c5]), (1001000, .arr 44 bT r_1.1), (1001001, .arr 46 aZ x10c1a), (1001002, .arr 9 Ty.str r_1.2.2.1)]⟩
noncomputable def akm (N : Nat) : Env := bQ (ay aG) (aU (B_ N)) aX N oC []
noncomputable def aq3 := (dE (ay aG) oC.res (kT (aT [aA, aj]) Xa []))
noncomputable def Vb (N : Nat) (n : Nat) : St → Option (Book × Int) := fun S' => iter [] (bH oC 0) (code (akm N) (bY oC.body 0 0) 0) n S' (bg (akm N) oC.body 0 0 aq3)
noncomputable def MB (N : Nat) (b : Book) (moved : Int) (done : Bool) (r_1 : Book) (r_2 : Int) (t8c4 : Int) (w12c0 : Int) (w12c1 : Int) (w12c2 : List Txt) (w12c3 : List Use) (w12c4 : List Txt) (w12c5 : List Txt) (n : Nat) : Int → (List aP) → Option (Book × Int) := fun i13 x10c1a => Vb N n (aiH b moved done r_1 r_2 t8c4 w12c0 w12c1 w12c2 w12c3 w12c4 w12c5 i13 x10c1a)
theorem acm (N : Nat) : MB N = Wu N := funext fun b => funext fun moved => funext fun done => funext fun r_1 => funext fun r_2 => funext fun t8c4 => funext fun w12c0 => funext fun w12c1 => funext fun w12c2 => funext fun w12c3 => funext fun w12c4 => funext fun w12c5 => funext (bz (by kernel_rfl) fun n => by
 show _ = zn N b moved done r_1 r_2 t8c4 w12c0 w12c1 w12c2 w12c3 w12c4 w12c5 (MB N b moved done r_1 r_2 t8c4 w12c0 w12c1 w12c2 w12c3 w12c4 w12c5 n)
 kernel_rfl)
theorem ahf (N : Nat) (b : Book) (number : Int) (moved : Int) (done : Bool) : aV (aT [aA, aj]) (ay aG) (aU (B_ N)) aX N oC Xa [⟨aA, b⟩, ⟨aj, number⟩, ⟨aj, moved⟩, ⟨.bool, done⟩] = F.aax N b number moved done := by
 show _ = F.aeL N (F.Wu N) b number moved done
 rw [← acm N]
 kernel_rfl
def ZK (N : Nat) : ax := aF [.d aA true, .d aj false, .d aj false, .d (.bool) false] false [.own aA true [(44, none), (46, (some [9])), (9, none), (91, (some [9, 101, 9, 9]))], .d aj false] [aA, aj] (F.aax N)
theorem ajF (N : Nat) : au Tryz.prog 33 (ZK N) := aJ (N := N) bf mixed (ah (l := B_ N) (aN rfl (ou N) (aN rfl (nN N) (aN rfl (y_ N) (aN rfl (adX N) (aN rfl (kZ N) (aN rfl (ahK N) trivial))))))) (aC _) aoX (by decide) fun b number moved done => ahf N b number moved done
def apl : Nat → Option Ann
 | 0 => some ⟨⟨[(0, kp), (1, kp), (5, kp), (6, kp)], [], []⟩, [(0, ⟨[(5, kp)], [], []⟩)], ⟨[], [], []⟩⟩
 | _ => none
noncomputable def oN : FI := ⟨Tryz.f15.results.toList, aK Tryz.f15.body, Tryz.f15.ntmps, apl⟩
theorem al5 : bI Tryz.prog 15 oN := ⟨⟨Tryz.f15, Tryz.func15, by kernel_rfl, rfl, rfl, by kernel_rfl⟩, by kernel_rfl⟩
def z_ (N : Nat) : List (Nat × ax) := []
def ZT : ax := a_ [.d ai false, .d (.str) false] false [.d (.str) false]
def akC (list : List Txt) (by0 : Txt) (out5 : Txt) (i6 : Int) : St := ⟨[(0, vv ai list), (1, vv Ty.str by0), (5, vv Ty.str out5), (6, vv aj i6)], []⟩
noncomputable def afN (N : Nat) : Env := bQ (ay aG) (aU (z_ N)) aX N oN []
noncomputable def arl := (dE (ay aG) oN.res (kT (aT [.str]) ZT []))
noncomputable def TF (N : Nat) (n : Nat) : St → Option Txt := fun S' => iter [] (bH oN 0) (code (afN N) (bY oN.body 0 0) 0) n S' (bg (afN N) oN.body 0 0 arl)
noncomputable def Lh (N : Nat) (list : List Txt) (by0 : Txt) (n : Nat) : Txt → Int → Option Txt := fun out5 i6 => TF N n (akC list by0 out5 i6)
theorem abb (N : Nat) : Lh N = Au N := funext fun list => funext fun by0 => funext (bz (by kernel_rfl) fun n => by
 show _ = uK N list by0 (Lh N list by0 n)
 kernel_rfl)
theorem ah6 (N : Nat) (list : List Txt) (by0 : Txt) : aV (aT [.str]) (ay aG) (aU (z_ N)) aX N oN ZT [⟨ai, list⟩, ⟨.str, by0⟩] = F.UN N list by0 := by
 show _ = F.apC N (F.Au N) list by0
 rw [← abb N]
 kernel_rfl
def Pj (N : Nat) : ax := aF [.d ai false, .d (.str) false] false [.d (.str) false] [.str] (F.UN N)
theorem Td (N : Nat) : au Tryz.prog 15 (Pj N) := aJ (N := N) bf mixed (ah (l := z_ N) trivial) (aC _) al5 (by decide) fun list by0 => ah6 N list by0
def apt : Nat → Option Ann := fun _ => none
noncomputable def XM : FI := ⟨Tryz.f34.results.toList, aK Tryz.f34.body, Tryz.f34.ntmps, apt⟩
theorem an9 : bI Tryz.prog 34 XM := ⟨⟨Tryz.f34, Tryz.func34, by kernel_rfl, rfl, rfl, by kernel_rfl⟩, by kernel_rfl⟩
def Md (N : Nat) : List (Nat × ax) := [(70, lZ N), (14, rY N), (15, Pj N)]
def aoa : ax := a_ [.d aA true, .d (.str) false] false [.d (.str) false]
theorem af0 (N : Nat) (b : Book) (name : Txt) : aV (aT [.str]) (ay aG) (aU (Md N)) aX N XM aoa [⟨aA, b⟩, ⟨.str, name⟩] = F.ahA N b name := by kernel_rfl
def Xt (N : Nat) : ax := aF [.d aA true, .d (.str) false] false [.d (.str) false] [.str] (F.ahA N)
theorem ae9 (N : Nat) : au Tryz.prog 34 (Xt N) := aJ (N := N) bf mixed (ah (l := Md N) (aN rfl (kZ N) (aN rfl (uM N) (aN rfl (Td N) trivial)))) (aC _) an9 (by decide) fun b name => af0 N b name
def anE : Nat → Option Ann
 | 0 => some ⟨⟨[(1, kp), (2, kp), (5, kp)], [(2, [kp, kp, kp, kp, kp])], []⟩, [(0, ⟨[], [], []⟩)], ⟨[(4, kp)], [], []⟩⟩
 | _ => none
noncomputable def o7 : FI := ⟨Tryz.f35.results.toList, aK Tryz.f35.body, Tryz.f35.ntmps, anE⟩
theorem anB : bI Tryz.prog 35 o7 := ⟨⟨Tryz.f35, Tryz.func35, by kernel_rfl, rfl, rfl, by kernel_rfl⟩, by kernel_rfl⟩
def Ad (N : Nat) : List (Nat × ax) := [(63, pK N), (72, lN N)]
def WX : ax := a_ [.d aA true, .d (.str) false] false [.d aj false]
def ahP (b : Book) (valve : Txt) (i5 : Int) : St := ⟨[(1, vv Ty.str valve), (2, vb 2), (5, vv aj i5)], [(2, .box [.v bT.slice b.1, .v aZ.slice b.2.1, .v ai b.2.2.1, .v bi.slice b.2.2.2.1, .v aj b.2.2.2.2])]⟩
noncomputable def aj6 (N : Nat) : Env := bQ (ay aG) (aU (Ad N)) aX N o7 []
noncomputable def arn := (dE (ay aG) o7.res (kT (aT [aj]) WX []))
noncomputable def TR (N : Nat) (n : Nat) : St → Option Int := fun S' => iter [] (bH o7 0) (code (aj6 N) (bY o7.body 0 0) 0) n S' (bg (aj6 N) o7.body 0 0 arn)
noncomputable def KU (N : Nat) (b : Book) (valve : Txt) (n : Nat) : Int → Option Int := fun i5 => TR N n (ahP b valve i5)
theorem abt (N : Nat) : KU N = Ug N := funext fun b => funext fun valve => funext (bz (by kernel_rfl) fun n => by
 show _ = EL N b valve (KU N b valve n)
 kernel_rfl)
theorem ai1 (N : Nat) (b : Book) (valve : Txt) : aV (aT [aj]) (ay aG) (aU (Ad N)) aX N o7 WX [⟨aA, b⟩, ⟨.str, valve⟩] = F.aaX N b valve := by
 show _ = F.ahb N (F.Ug N) b valve
 rw [← abt N]
 kernel_rfl
def Yp (N : Nat) : ax := aF [.d aA true, .d (.str) false] false [.d aj false] [aj] (F.aaX N)
theorem acR (N : Nat) : au Tryz.prog 35 (Yp N) := aJ (N := N) bf mixed (ah (l := Ad N) (aN rfl (ou N) (aN rfl (kU N) trivial))) (aC _) anB (by decide) fun b valve => ai1 N b valve
def aoA : Nat → Option Ann
 | 0 => some ⟨⟨[(1, kp), (2, kp), (5, .own 700005 3 aj), (6, kp)], [(2, [kp, kp, kp, kp, kp])], []⟩, [(0, ⟨[(5, .own 700005 3 aj)], [], []⟩)], ⟨[], [], []⟩⟩
 | _ => none
noncomputable def pF : FI := ⟨Tryz.f37.results.toList, aK Tryz.f37.body, Tryz.f37.ntmps, aoA⟩
theorem akQ : bI Tryz.prog 37 pF := ⟨⟨Tryz.f37, Tryz.func37, by kernel_rfl, rfl, rfl, by kernel_rfl⟩, by kernel_rfl⟩
def BK (N : Nat) : List (Nat × ax) := [(63, pK N), (72, lN N)]
def XJ : ax := a_ [.d aA true, .d (.str) false] false [.own (.slice aj) false [(3, none)]]
def ai3 (b : Book) (valve : Txt) (i6 : Int) (out5a : List Int) : St := ⟨[(1, vv Ty.str valve), (2, vb 2), (5, va 700005), (6, vv aj i6)], [(2, .box [.v bT.slice b.1, .v aZ.slice b.2.1, .v ai b.2.2.1, .v bi.slice b.2.2.2.1, .v aj b.2.2.2.2]), (700005, .arr 3 aj out5a)]⟩
noncomputable def aeq (N : Nat) : Env := bQ (ay aG) (aU (BK N)) aX N pF []
noncomputable def aqy := (dE (ay aG) pF.res (kT (aT [.slice aj]) XJ []))
noncomputable def Uy (N : Nat) (n : Nat) : St → Option (List Int) := fun S' => iter [] (bH pF 0) (code (aeq N) (bY pF.body 0 0) 0) n S' (bg (aeq N) pF.body 0 0 aqy)
noncomputable def LQ (N : Nat) (b : Book) (valve : Txt) (n : Nat) : Int → (List Int) → Option (List Int) := fun i6 out5a => Uy N n (ai3 b valve i6 out5a)
theorem abn (N : Nat) : LQ N = VQ N := funext fun b => funext fun valve => funext (bz (by kernel_rfl) fun n => by
 show _ = Eo N b valve (LQ N b valve n)
 kernel_rfl)
theorem ajf (N : Nat) (b : Book) (valve : Txt) : aV (aT [.slice aj]) (ay aG) (aU (BK N)) aX N pF XJ [⟨aA, b⟩, ⟨.str, valve⟩] = F.aaQ N b valve := by
 show _ = F.aiM N (F.VQ N) b valve
 rw [← abn N]
 kernel_rfl
def YH (N : Nat) : ax := aF [.d aA true, .d (.str) false] false [.own (.slice aj) false [(3, none)]] [.slice aj] (F.aaQ N)
theorem ahX (N : Nat) : au Tryz.prog 37 (YH N) := aJ (N := N) bf mixed (ah (l := BK N) (aN rfl (ou N) (aN rfl (kU N) trivial))) (aC _) akQ (by decide) fun b valve => ajf N b valve
def akR : Nat → Option Ann
 | 0 => some ⟨⟨[(0, kp), (3, .own 700003 9 Ty.str), (4, kp)], [], []⟩, [(0, ⟨[(3, .own 700003 9 Ty.str)], [], []⟩)], ⟨[], [], []⟩⟩
 | _ => none
noncomputable def qA : FI := ⟨Tryz.f36.results.toList, aK Tryz.f36.body, Tryz.f36.ntmps, akR⟩
theorem an7 : bI Tryz.prog 36 qA := ⟨⟨Tryz.f36, Tryz.func36, by kernel_rfl, rfl, rfl, by kernel_rfl⟩, by kernel_rfl⟩
def zY (N : Nat) : List (Nat × ax) := [(14, rY N), (15, Pj N)]
def Yf : ax := a_ [.d (.slice aj) false] false [.d (.str) false]
def ah2 (list : List Int) (i4 : Int) (out3a : List Txt) : St := ⟨[(0, vv aj.slice list), (3, va 700003), (4, vv aj i4)], [(700003, .arr 9 Ty.str out3a)]⟩
noncomputable def adm (N : Nat) : Env := bQ (ay aG) (aU (zY N)) aX N qA []
noncomputable def apN := (dE (ay aG) qA.res (kT (aT [.str]) Yf []))
noncomputable def Vl (N : Nat) (n : Nat) : St → Option Txt := fun S' => iter [] (bH qA 0) (code (adm N) (bY qA.body 0 0) 0) n S' (bg (adm N) qA.body 0 0 apN)
noncomputable def ND (N : Nat) (list : List Int) (n : Nat) : Int → (List Txt) → Option Txt := fun i4 out3a => Vl N n (ah2 list i4 out3a)
theorem abQ (N : Nat) : ND N = Wv N := funext fun list => funext (bz (by kernel_rfl) fun n => by
 show _ = FM N list (ND N list n)
 kernel_rfl)
theorem ajN (N : Nat) (list : List (Int)) : aV (aT [.str]) (ay aG) (aU (zY N)) aX N qA Yf [⟨.slice aj, list⟩] = F.ach N list := by
 show _ = F.ahZ N (F.Wv N) list
 rw [← abQ N]
 kernel_rfl
def YG (N : Nat) : ax := aF [.d (.slice aj) false] false [.d (.str) false] [.str] (F.ach N)
theorem aiD (N : Nat) : au Tryz.prog 36 (YG N) := aJ (N := N) bf mixed (ah (l := zY N) (aN rfl (uM N) (aN rfl (Td N) trivial))) (aC _) an7 (by decide) fun list => ajN N list
def alF : Nat → Option Ann
 | 1000002 => some ⟨⟨[], [], []⟩, [], ⟨[], [], []⟩⟩
 | 1000004 => some ⟨⟨[], [], []⟩, [], ⟨[], [], []⟩⟩
 | 1000006 => some ⟨⟨[], [], []⟩, [], ⟨[], [], []⟩⟩
 | 1000010 => some ⟨⟨[], [], []⟩, [], ⟨[], [], []⟩⟩
 | 1000012 => some ⟨⟨[], [], []⟩, [], ⟨[], [], []⟩⟩
 | 1000014 => some ⟨⟨[], [], []⟩, [], ⟨[], [], []⟩⟩
 | 1000016 => some ⟨⟨[], [], []⟩, [], ⟨[], [], []⟩⟩
 | 1000018 => some ⟨⟨[], [], []⟩, [], ⟨[], [], []⟩⟩
 | 1000020 => some ⟨⟨[], [], []⟩, [], ⟨[], [], []⟩⟩
 | 1000022 => some ⟨⟨[], [], []⟩, [], ⟨[], [], []⟩⟩
 | 1000024 => some ⟨⟨[], [], []⟩, [], ⟨[], [], []⟩⟩
 | _ => none
noncomputable def Yl : FI := ⟨Tryz.f9.results.toList, aK Tryz.f9.body, Tryz.f9.ntmps, alF⟩
theorem amd : bI Tryz.prog 9 Yl := ⟨⟨Tryz.f9, Tryz.func9, by kernel_rfl, rfl, rfl, by kernel_rfl⟩, by kernel_rfl⟩
def LK (N : Nat) : List (Nat × ax) := [(23, RH N), (24, W9 N), (25, qE N), (26, w_ N), (27, EK N), (30, Q4 N), (29, YV N), (28, Zo N), (32, yG N), (31, Yr N), (33, ZK N), (34, Xt N), (35, Yp N), (14, rY N), (37, YH N), (36, YG N)]
def akO : ax := a_ [.d aA true, .d ai false] true [.d aA true, .d (.str) false]
theorem afZ (N : Nat) (b : Book) (ws : List Txt) : aV (aT [aA, .str]) (ay aG) (aU (LK N)) aX N Yl akO [⟨aA, b⟩, ⟨ai, ws⟩] = F.aaS N b ws := by kernel_rfl
def Yj (N : Nat) : ax := aF [.d aA true, .d ai false] true [.d aA true, .d (.str) false] [aA, .str] (F.aaS N)
theorem ajr (N : Nat) : au Tryz.prog 9 (Yj N) := aJ (N := N) bf mixed (ah (l := LK N) (aN rfl (aam N) (aN rfl (afV N) (aN rfl (nN N) (aN rfl (yV N) (aN rfl (Gs N) (aN rfl (acD N) (aN rfl (aht N) (aN rfl (aiv N) (aN rfl (xP N) (aN rfl (aiA N) (aN rfl (ajF N) (aN rfl (ae9 N) (aN rfl (acR N) (aN rfl (uM N) (aN rfl (ahX N) (aN rfl (aiD N) trivial))))))))))))))))) (aC _) amd (by decide) fun b ws => afZ N b ws
def amq : Nat → Option Ann
 | 0 => some ⟨⟨[(3, kp), (4, kp), (5, kp), (6, kp)], [(4, [Dir.frz bT, Dir.frz aZ, Dir.frz Ty.str, Dir.frz bi, kp])], []⟩, [(0, ⟨[(5, kp)], [], []⟩)], ⟨[], [], []⟩⟩
 | _ => none
noncomputable def qN : FI := ⟨Tryz.f5.results.toList, aK Tryz.f5.body, Tryz.f5.ntmps, amq⟩
theorem amK : bI Tryz.prog 5 qN := ⟨⟨Tryz.f5, Tryz.func5, by kernel_rfl, rfl, rfl, by kernel_rfl⟩, by kernel_rfl⟩
def Cb (N : Nat) : List (Nat × ax) := [(8, y7 N), (9, Yj N)]
def Xw : ax := a_ [.d (.str) false] false [.d (.str) false]
def aks (lines3 : List Txt) (out5 : Txt) (i6 : Int) (b4c0 : List Foe) (b4c1 : List aP) (b4c2 : List Txt) (b4c3 : List Part) (b4c4 : Int) : St := ⟨[(3, vv ai lines3), (4, vb 4), (5, vv Ty.str out5), (6, vv aj i6)], [(4, .box [.v bT.slice b4c0, .v aZ.slice b4c1, .v ai b4c2, .v bi.slice b4c3, .v aj b4c4])]⟩
noncomputable def ajO (N : Nat) : Env := bQ (ay aG) (aU (Cb N)) aX N qN []
noncomputable def arf := (dE (ay aG) qN.res (kT (aT [.str]) Xw []))
noncomputable def UB (N : Nat) (n : Nat) : St → Option Txt := fun S' => iter [] (bH qN 0) (code (ajO N) (bY qN.body 0 0) 0) n S' (bg (ajO N) qN.body 0 0 arf)
noncomputable def LY (N : Nat) (lines3 : List Txt) (n : Nat) : Txt → Int → (List Foe) → (List aP) → (List Txt) → (List Part) → Int → Option Txt := fun out5 i6 b4c0 b4c1 b4c2 b4c3 b4c4 => UB N n (aks lines3 out5 i6 b4c0 b4c1 b4c2 b4c3 b4c4)
theorem ab7 (N : Nat) : LY N = wR N := funext fun lines3 => funext (bz (by kernel_rfl) fun n => by
 show _ = uw N lines3 (LY N lines3 n)
 kernel_rfl)
theorem adp (N : Nat) (text : Txt) : aV (aT [.str]) (ay aG) (aU (Cb N)) aX N qN Xw [⟨.str, text⟩] = F.akz N text := by
 show _ = F.afx N (F.wR N) text
 rw [← ab7 N]
 kernel_rfl
def Yo (N : Nat) : ax := aF [.d (.str) false] false [.d (.str) false] [.str] (F.akz N)
theorem afa (N : Nat) : au Tryz.prog 5 (Yo N) := aJ (N := N) bf mixed (ah (l := Cb N) (aN rfl (Bj N) (aN rfl (ajr N) trivial))) (aC _) amK (by decide) fun text => adp N text
def ank : Nat → Option Ann := fun _ => none
noncomputable def Za : FI := ⟨Tryz.f76.results.toList, aK Tryz.f76.body, Tryz.f76.ntmps, ank⟩
theorem anW : bI Tryz.prog 76 Za := ⟨⟨Tryz.f76, Tryz.func76, by kernel_rfl, rfl, rfl, by kernel_rfl⟩, by kernel_rfl⟩
def JJ (N : Nat) : List (Nat × ax) := []
def an_ : ax := a_ [.d (.slice bT) false] false [.own (.slice bT) false [(44, none)]]
theorem ai4 (N : Nat) (s : List Foe) : aV (aT [.slice bT]) (ay aG) (aU (JJ N)) aX N Za an_ [⟨.slice bT, s⟩] = F.afF N s := by kernel_rfl
def XD (N : Nat) : ax := aF [.d (.slice bT) false] false [.own (.slice bT) false [(44, none)]] [.slice bT] (F.afF N)
theorem agm (N : Nat) : au Tryz.prog 76 (XD N) := aJ (N := N) bf mixed (ah (l := JJ N) trivial) (aC _) anW (by decide) fun s => ai4 N s
def ak7 : Nat → Option Ann := fun _ => none
noncomputable def XQ : FI := ⟨Tryz.f77.results.toList, aK Tryz.f77.body, Tryz.f77.ntmps, ak7⟩
theorem amf : bI Tryz.prog 77 XQ := ⟨⟨Tryz.f77, Tryz.func77, by kernel_rfl, rfl, rfl, by kernel_rfl⟩, by kernel_rfl⟩
def KJ (N : Nat) : List (Nat × ax) := []
def am3 : ax := a_ [.d ai false] false [.own ai false [(9, none)]]
theorem ajC (N : Nat) (s : List Txt) : aV (aT [ai]) (ay aG) (aU (KJ N)) aX N XQ am3 [⟨ai, s⟩] = F.Ji N s := by kernel_rfl
def D9 (N : Nat) : ax := aF [.d ai false] false [.own ai false [(9, none)]] [ai] (F.Ji N)
theorem GL (N : Nat) : au Tryz.prog 77 (D9 N) := aJ (N := N) bf mixed (ah (l := KJ N) trivial) (aC _) amf (by decide) fun s => ajC N s
def am1 : Nat → Option Ann := fun _ => none
noncomputable def XE : FI := ⟨Tryz.f112.results.toList, aK Tryz.f112.body, Tryz.f112.ntmps, am1⟩
theorem alD : bI Tryz.prog 112 XE := ⟨⟨Tryz.f112, Tryz.func112, by kernel_rfl, rfl, rfl, by kernel_rfl⟩, by kernel_rfl⟩
def Mc (N : Nat) : List (Nat × ax) := []
def amZ : ax := a_ [.d (.slice bM) false] false [.own (.slice bM) false [(101, none)]]
theorem afj (N : Nat) (s : List Use) : aV (aT [.slice bM]) (ay aG) (aU (Mc N)) aX N XE amZ [⟨.slice bM, s⟩] = F.ad7 N s := by kernel_rfl
def Ya (N : Nat) : ax := aF [.d (.slice bM) false] false [.own (.slice bM) false [(101, none)]] [.slice bM] (F.ad7 N)
theorem aiy (N : Nat) : au Tryz.prog 112 (Ya N) := aJ (N := N) bf mixed (ah (l := Mc N) trivial) (aC _) alD (by decide) fun s => afj N s
def am2 : Nat → Option Ann := fun _ => none
noncomputable def Y6 : FI := ⟨Tryz.f78.results.toList, aK Tryz.f78.body, Tryz.f78.ntmps, am2⟩
theorem amU : bI Tryz.prog 78 Y6 := ⟨⟨Tryz.f78, Tryz.func78, by kernel_rfl, rfl, rfl, by kernel_rfl⟩, by kernel_rfl⟩
def MJ (N : Nat) : List (Nat × ax) := [(77, D9 N), (112, Ya N)]
def aog : ax := a_ [.d aO true] false [.own aO true [(9, none), (101, none), (9, none), (9, none)]]
theorem afB (N : Nat) (w : Want) : aV (aT [aO]) (ay aG) (aU (MJ N)) aX N Y6 aog [⟨aO, w⟩] = F.UC N w := by kernel_rfl
def O8 (N : Nat) : ax := aF [.d aO true] false [.own aO true [(9, none), (101, none), (9, none), (9, none)]] [aO] (F.UC N)
theorem SI (N : Nat) : au Tryz.prog 78 (O8 N) := aJ (N := N) bf mixed (ah (l := MJ N) (aN rfl (GL N) (aN rfl (aiy N) trivial))) (aC _) amU (by decide) fun w => afB N w
def ak3 : Nat → Option Ann
 | 0 => some ⟨⟨[(1, kp), (2, kp), (3, kp), (18, kp), (19, kp), (20, kp)], [(1, [kp, kp, kp, kp, kp]), (2, [kp, kp, kp, kp, kp]), (3, [.own 1000300 44 bT, Dir.dow 1000301 46 [9] aZ, .own 1000302 9 Ty.str, kp, kp])], []⟩, [(0, ⟨[(1, kp), (2, kp), (3, kp)], [(1, [kp, kp, kp, kp, kp]), (2, [kp, kp, kp, kp, kp]), (3, [.own 1000300 44 bT, Dir.dow 1000301 46 [9] aZ, .own 1000302 9 Ty.str, kp, kp])], []⟩)], ⟨[], [], []⟩⟩
 | 2 => some ⟨⟨[(2, kp), (3, kp), (36, kp), (37, kp), (38, kp)], [(2, [kp, kp, kp, kp, kp]), (3, [.own 1000300 44 bT, Dir.dow 1000301 46 [9] aZ, .own 1000302 9 Ty.str, Dir.dow 1000303 91 [9, 101, 9, 9] bi, kp])], []⟩, [(2, ⟨[(2, kp), (3, kp)], [(2, [kp, kp, kp, kp, kp]), (3, [.own 1000300 44 bT, Dir.dow 1000301 46 [9] aZ, .own 1000302 9 Ty.str, Dir.dow 1000303 91 [9, 101, 9, 9] bi, kp])], []⟩)], ⟨[], [], []⟩⟩
 | _ => none
noncomputable def jJ : FI := ⟨Tryz.f39.results.toList, aK Tryz.f39.body, Tryz.f39.ntmps, ak3⟩
theorem alq : bI Tryz.prog 39 jJ := ⟨⟨Tryz.f39, Tryz.func39, by kernel_rfl, rfl, rfl, by kernel_rfl⟩, by kernel_rfl⟩
def zM (N : Nat) : List (Nat × ax) := [(76, XD N), (77, D9 N), (78, O8 N)]
def Yw : ax := a_ [.d aA true] false [.own aA true [(44, none), (46, (some [9])), (9, none), (91, (some [9, 101, 9, 9]))]]
def aiG (b : Book) (r : List Foe) (r_1 : List Txt) (t2c4 : Int) (out3c1a : List aP) (t37 : Int) (t38 : Int) (out3c3a : List Part) : St := ⟨[(2, vb 2), (3, vb 3), (36, vv bi.slice b.2.2.2.1), (37, vv aj t37), (38, vv aj t38)], [(2, .box [.emp, .emp, .emp, .emp, .v aj t2c4]), (3, .box [.arr 1000300, .arr 1000301, .arr 1000302, .arr 1000303, .v aj b.2.2.2.2]), (1000300, .arr 44 bT r), (1000301, .arr 46 aZ out3c1a (Dp.yes [9])), (1000302, .arr 9 Ty.str r_1), (1000303, .arr 91 bi out3c3a (Dp.yes [9, 101, 9, 9]))]⟩
def ac9 (b : Book) (r : List Foe) (r_1 : List Txt) (t19 : Int) (t2c4 : Int) (t20 : Int) (out3c1a : List aP) : St := ⟨[(1, vb 1), (2, vb 2), (3, vb 3), (18, vv aZ.slice b.2.1), (19, vv aj t19), (20, vv aj t20)], [(1, .box [.v bT.slice b.1, .v aZ.slice b.2.1, .v ai b.2.2.1, .v bi.slice b.2.2.2.1, .v aj b.2.2.2.2]), (2, .box [.emp, .emp, .emp, .emp, .v aj t2c4]), (3, .box [.arr 1000300, .arr 1000301, .arr 1000302, .emp, .v aj b.2.2.2.2]), (1000300, .arr 44 bT r), (1000301, .arr 46 aZ out3c1a (Dp.yes [9])), (1000302, .arr 9 Ty.str r_1)]⟩
noncomputable def O9 (N : Nat) : Env := bQ (ay aG) (aU (zM N)) aX N jJ []
noncomputable def ai_ := (dE (ay aG) jJ.res (kT (aT [aA]) Yw []))
noncomputable def Vg (N : Nat) (n : Nat) : St → Option Book := fun S' => iter [] (bH jJ 2) (code (O9 N) (bY jJ.body 0 2) 2) n S' (bg (O9 N) jJ.body 0 2 ai_)
noncomputable def Bv (N : Nat) (b : Book) (r : List Foe) (r_1 : List Txt) (t2c4 : Int) (out3c1a : List aP) (t37 : Int) (n : Nat) : Int → (List Part) → Option Book := fun t38 out3c3a => Vg N n (aiG b r r_1 t2c4 out3c1a t37 t38 out3c3a)
theorem acb (N : Nat) : Bv N = Gm N := funext fun b => funext fun r => funext fun r_1 => funext fun t2c4 => funext fun out3c1a => funext fun t37 => funext (bz (by kernel_rfl) fun n => by
 show _ = FP N b r r_1 t2c4 out3c1a t37 (Bv N b r r_1 t2c4 out3c1a t37 n)
 kernel_rfl)
noncomputable def TK (N : Nat) (n : Nat) : St → Option Book := fun S' => iter [] (bH jJ 0) (code (O9 N) (bY jJ.body 0 0) 0) n S' (bg (O9 N) jJ.body 0 0 ai_)
noncomputable def Kt (N : Nat) (b : Book) (r : List Foe) (r_1 : List Txt) (t19 : Int) (t2c4 : Int) (n : Nat) : Int → (List aP) → Option Book := fun t20 out3c1a => TK N n (ac9 b r r_1 t19 t2c4 t20 out3c1a)
theorem aap (N : Nat) : Kt N = UT N := funext fun b => funext fun r => funext fun r_1 => funext fun t19 => funext fun t2c4 => funext (bz (by kernel_rfl) fun n => by
 show _ = Eg N (Gm N) b r r_1 t19 t2c4 (Kt N b r r_1 t19 t2c4 n)
 rw [show Gm N = Bv N from (acb N).symm]
 kernel_rfl)
theorem ae7 (N : Nat) (b : Book) : aV (aT [aA]) (ay aG) (aU (zM N)) aX N jJ Yw [⟨aA, b⟩] = F.Su N b := by
 show _ = F.aji N (F.UT N) b
 rw [← aap N]
 kernel_rfl
def xC (N : Nat) : ax := aF [.d aA true] false [.own aA true [(44, none), (46, (some [9])), (9, none), (91, (some [9, 101, 9, 9]))]] [aA] (F.Su N)
theorem yg (N : Nat) : au Tryz.prog 39 (xC N) := aJ (N := N) bf mixed (ah (l := zM N) (aN rfl (agm N) (aN rfl (GL N) (aN rfl (SI N) trivial)))) (aC _) alq (by decide) fun b => ae7 N b
def aii : Nat → Option Ann := fun _ => none
noncomputable def QA : FI := ⟨Tryz.f80.results.toList, aK Tryz.f80.body, Tryz.f80.ntmps, aii⟩
theorem ag1 : bI Tryz.prog 80 QA := ⟨⟨Tryz.f80, Tryz.func80, by kernel_rfl, rfl, rfl, by kernel_rfl⟩, by kernel_rfl⟩
def Ig (N : Nat) : List (Nat × ax) := []
def ae3 : ax := a_ [.d aj false, .d aj false, .d aj false] false [.d (.bool) false]
theorem aaY (N : Nat) (n : Int) (low : Int) (high : Int) : aV (aT [.bool]) (ay aG) (aU (Ig N)) aX N QA ae3 [⟨aj, n⟩, ⟨aj, low⟩, ⟨aj, high⟩] = F.jg N n low high := by kernel_rfl
def tN (N : Nat) : ax := aF [.d aj false, .d aj false, .d aj false] false [.d (.bool) false] [.bool] (F.jg N)
theorem uD (N : Nat) : au Tryz.prog 80 (tN N) := aJ (N := N) bf mixed (ah (l := Ig N) trivial) (aC _) ag1 (by decide) fun n low high => aaY N n low high
def aen : Nat → Option Ann
 | 0 => some ⟨⟨[(0, kp), (3, kp)], [], []⟩, [(0, ⟨[], [], []⟩)], ⟨[(2, kp)], [], []⟩⟩
 | _ => none
noncomputable def lI : FI := ⟨Tryz.f114.results.toList, aK Tryz.f114.body, Tryz.f114.ntmps, aen⟩
theorem ajB : bI Tryz.prog 114 lI := ⟨⟨Tryz.f114, Tryz.func114, by kernel_rfl, rfl, rfl, by kernel_rfl⟩, by kernel_rfl⟩
def wM (N : Nat) : List (Nat × ax) := [(80, tN N)]
def Rt : ax := a_ [.d (.str) false] false [.d (.bool) false]
def abz (s : Txt) (i3 : Int) : St := ⟨[(0, vv Ty.str s), (3, vv aj i3)], []⟩
noncomputable def ZM (N : Nat) : Env := bQ (ay aG) (aU (wM N)) aX N lI []
noncomputable def ak8 := (dE (ay aG) lI.res (kT (aT [.bool]) Rt []))
noncomputable def Tz (N : Nat) (n : Nat) : St → Option Bool := fun S' => iter [] (bH lI 0) (code (ZM N) (bY lI.body 0 0) 0) n S' (bg (ZM N) lI.body 0 0 ak8)
noncomputable def IG (N : Nat) (s : Txt) (n : Nat) : Int → Option Bool := fun i3 => Tz N n (abz s i3)
theorem TI (N : Nat) : IG N = OO N := funext fun s => funext (bz (by kernel_rfl) fun n => by
 show _ = yX N s (IG N s n)
 kernel_rfl)
theorem abh (N : Nat) (s : Txt) : aV (aT [.bool]) (ay aG) (aU (wM N)) aX N lI Rt [⟨.str, s⟩] = F.xq N s := by
 show _ = F.Wx N (F.OO N) s
 rw [← TI N]
 kernel_rfl
def yF (N : Nat) : ax := aF [.d (.str) false] false [.d (.bool) false] [.bool] (F.xq N)
theorem zI (N : Nat) : au Tryz.prog 114 (yF N) := aJ (N := N) bf mixed (ah (l := wM N) (aN rfl (uD N) trivial)) (aC _) ajB (by decide) fun s => abh N s
def ajo : Nat → Option Ann
 | 0 => some ⟨⟨[(0, kp), (11, kp), (12, kp), (13, kp)], [], []⟩, [(0, ⟨[], [], []⟩)], ⟨[(4, kp)], [], []⟩⟩
 | _ => none
noncomputable def lq : FI := ⟨Tryz.f113.results.toList, aK Tryz.f113.body, Tryz.f113.ntmps, ajo⟩
theorem aky : bI Tryz.prog 113 lq := ⟨⟨Tryz.f113, Tryz.func113, by kernel_rfl, rfl, rfl, by kernel_rfl⟩, by kernel_rfl⟩
def wE (N : Nat) : List (Nat × ax) := [(114, yF N)]
def SA : ax := a_ [.d ai false, .d aj false] false [.d (.bool) false]
def ab4 (l : List Txt) (t12 : Int) (t13 : Int) : St := ⟨[(0, vv ai l), (11, vv ai l), (12, vv aj t12), (13, vv aj t13)], []⟩
noncomputable def ZC (N : Nat) : Env := bQ (ay aG) (aU (wE N)) aX N lq []
noncomputable def ami := (dE (ay aG) lq.res (kT (aT [.bool]) SA []))
noncomputable def Sv (N : Nat) (n : Nat) : St → Option Bool := fun S' => iter [] (bH lq 0) (code (ZC N) (bY lq.body 0 0) 0) n S' (bg (ZC N) lq.body 0 0 ami)
noncomputable def I9 (N : Nat) (l : List Txt) (t12 : Int) (n : Nat) : Int → Option Bool := fun t13 => Sv N n (ab4 l t12 t13)
theorem VD (N : Nat) : I9 N = PM N := funext fun l => funext fun t12 => funext (bz (by kernel_rfl) fun n => by
 show _ = xU N l t12 (I9 N l t12 n)
 kernel_rfl)
theorem ack (N : Nat) (l : List Txt) (most : Int) : aV (aT [.bool]) (ay aG) (aU (wE N)) aX N lq SA [⟨ai, l⟩, ⟨aj, most⟩] = F.sN N l most := by
 show _ = F.TV N (F.PM N) l most
 rw [← VD N]
 kernel_rfl
def Gv (N : Nat) : ax := aF [.d ai false, .d aj false] false [.d (.bool) false] [.bool] (F.sN N)
theorem Np (N : Nat) : au Tryz.prog 113 (Gv N) := aJ (N := N) bf mixed (ah (l := wE N) (aN rfl (zI N) trivial)) (aC _) aky (by decide) fun l most => ack N l most
def aoW : Nat → Option Ann := fun _ => none
noncomputable def Yu : FI := ⟨Tryz.f115.results.toList, aK Tryz.f115.body, Tryz.f115.ntmps, aoW⟩
theorem ao2 : bI Tryz.prog 115 Yu := ⟨⟨Tryz.f115, Tryz.func115, by kernel_rfl, rfl, rfl, by kernel_rfl⟩, by kernel_rfl⟩
def Lm (N : Nat) : List (Nat × ax) := []
def alL : ax := a_ [.d bT true, .d bT true] false [.d (.bool) false]
theorem ah_ (N : Nat) (f : Foe) (g : Foe) : aV (aT [.bool]) (ay aG) (aU (Lm N)) aX N Yu alL [⟨bT, f⟩, ⟨bT, g⟩] = F.afM N f g := by kernel_rfl
def YZ (N : Nat) : ax := aF [.d bT true, .d bT true] false [.d (.bool) false] [.bool] (F.afM N)
theorem ae6 (N : Nat) : au Tryz.prog 115 (YZ N) := aJ (N := N) bf mixed (ah (l := Lm N) trivial) (aC _) ao2 (by decide) fun f g => ah_ N f g
def ao5 : Nat → Option Ann
 | 0 => some ⟨⟨[(0, kp), (1, kp), (7, kp), (8, kp)], [], []⟩, [(0, ⟨[], [], []⟩)], ⟨[(4, kp)], [], []⟩⟩
 | _ => none
noncomputable def p_ : FI := ⟨Tryz.f139.results.toList, aK Tryz.f139.body, Tryz.f139.ntmps, ao5⟩
theorem anx : bI Tryz.prog 139 p_ := ⟨⟨Tryz.f139, Tryz.func139, by kernel_rfl, rfl, rfl, by kernel_rfl⟩, by kernel_rfl⟩
def Bz (N : Nat) : List (Nat × ax) := []
def Xk : ax := a_ [.d ai false, .d (.str) false] false [.d aj false]
def ahN (s : List Txt) (v : Txt) (t7 : Int) (t8 : Int) : St := ⟨[(0, vv ai s), (1, vv Ty.str v), (7, vv aj t7), (8, vv aj t8)], []⟩
noncomputable def ahz (N : Nat) : Env := bQ (ay aG) (aU (Bz N)) aX N p_ []
noncomputable def apO := (dE (ay aG) p_.res (kT (aT [aj]) Xk []))
noncomputable def Vq (N : Nat) (n : Nat) : St → Option Int := fun S' => iter [] (bH p_ 0) (code (ahz N) (bY p_.body 0 0) 0) n S' (bg (ahz N) p_.body 0 0 apO)
noncomputable def MH (N : Nat) (s : List Txt) (v : Txt) (t7 : Int) (n : Nat) : Int → Option Int := fun t8 => Vq N n (ahN s v t7 t8)
theorem abW (N : Nat) : MH N = VL N := funext fun s => funext fun v => funext fun t7 => funext (bz (by kernel_rfl) fun n => by
 show _ = FH N s v t7 (MH N s v t7 n)
 kernel_rfl)
theorem akb (N : Nat) (s : List Txt) (v : Txt) : aV (aT [aj]) (ay aG) (aU (Bz N)) aX N p_ Xk [⟨ai, s⟩, ⟨.str, v⟩] = F.agl N s v := by
 show _ = F.acT N (F.VL N) s v
 rw [← abW N]
 kernel_rfl
def Yn (N : Nat) : ax := aF [.d ai false, .d (.str) false] false [.d aj false] [aj] (F.agl N)
theorem afh (N : Nat) : au Tryz.prog 139 (Yn N) := aJ (N := N) bf mixed (ah (l := Bz N) trivial) (aC _) anx (by decide) fun s v => akb N s v
def apg : Nat → Option Ann := fun _ => none
noncomputable def XZ : FI := ⟨Tryz.f93.results.toList, aK Tryz.f93.body, Tryz.f93.ntmps, apg⟩
theorem aoM : bI Tryz.prog 93 XZ := ⟨⟨Tryz.f93, Tryz.func93, by kernel_rfl, rfl, rfl, by kernel_rfl⟩, by kernel_rfl⟩
def JG (N : Nat) : List (Nat × ax) := [(139, Yn N)]
def anG : ax := a_ [.d ai false, .d (.str) false] false [.d (.bool) false]
theorem aic (N : Nat) (s : List Txt) (v : Txt) : aV (aT [.bool]) (ay aG) (aU (JG N)) aX N XZ anG [⟨ai, s⟩, ⟨.str, v⟩] = F.yl N s v := by kernel_rfl
def uJ (N : Nat) : ax := aF [.d ai false, .d (.str) false] false [.d (.bool) false] [.bool] (F.yl N)
theorem tC (N : Nat) : au Tryz.prog 93 (uJ N) := aJ (N := N) bf mixed (ah (l := JG N) (aN rfl (afh N) trivial)) (aC _) aoM (by decide) fun s v => aic N s v
def amC : Nat → Option Ann
 | 0 => some ⟨⟨[(1, kp), (2, kp), (10, kp), (11, kp), (12, kp)], [], []⟩, [(0, ⟨[], [], []⟩)], ⟨[(6, kp)], [], []⟩⟩
 | _ => none
noncomputable def qg : FI := ⟨Tryz.f116.results.toList, aK Tryz.f116.body, Tryz.f116.ntmps, amC⟩
theorem al1 : bI Tryz.prog 116 qg := ⟨⟨Tryz.f116, Tryz.func116, by kernel_rfl, rfl, rfl, by kernel_rfl⟩, by kernel_rfl⟩
def zQ (N : Nat) : List (Nat × ax) := [(93, uJ N)]
def ZA : ax := a_ [.d aA true, .d ai false, .d ai false] false [.d (.bool) false]
def afs (b : Book) (x : List Txt) (y : List Txt) (t11 : Int) (t12 : Int) : St := ⟨[(1, vv ai x), (2, vv ai y), (10, vv bT.slice b.1), (11, vv aj t11), (12, vv aj t12)], []⟩
noncomputable def ajJ (N : Nat) : Env := bQ (ay aG) (aU (zQ N)) aX N qg []
noncomputable def aq0 := (dE (ay aG) qg.res (kT (aT [.bool]) ZA []))
noncomputable def U8 (N : Nat) (n : Nat) : St → Option Bool := fun S' => iter [] (bH qg 0) (code (ajJ N) (bY qg.body 0 0) 0) n S' (bg (ajJ N) qg.body 0 0 aq0)
noncomputable def J6 (N : Nat) (b : Book) (x : List Txt) (y : List Txt) (t11 : Int) (n : Nat) : Int → Option Bool := fun t12 => U8 N n (afs b x y t11 t12)
theorem acw (N : Nat) : J6 N = UH N := funext fun b => funext fun x => funext fun y => funext fun t11 => funext (bz (by kernel_rfl) fun n => by
 show _ = FK N b x y t11 (J6 N b x y t11 n)
 kernel_rfl)
theorem akK (N : Nat) (b : Book) (x : List Txt) (y : List Txt) : aV (aT [.bool]) (ay aG) (aU (zQ N)) aX N qg ZA [⟨aA, b⟩, ⟨ai, x⟩, ⟨ai, y⟩] = F.Om N b x y := by
 show _ = F.adE N (F.UH N) b x y
 rw [← acw N]
 kernel_rfl
def OL (N : Nat) : ax := aF [.d aA true, .d ai false, .d ai false] false [.d (.bool) false] [.bool] (F.Om N)
theorem Q9 (N : Nat) : au Tryz.prog 116 (OL N) := aJ (N := N) bf mixed (ah (l := zQ N) (aN rfl (tC N) trivial)) (aC _) al1 (by decide) fun b x y => akK N b x y
def amM : Nat → Option Ann := fun _ => none
noncomputable def Xv : FI := ⟨Tryz.f179.results.toList, aK Tryz.f179.body, Tryz.f179.ntmps, amM⟩
theorem amO : bI Tryz.prog 179 Xv := ⟨⟨Tryz.f179, Tryz.func179, by kernel_rfl, rfl, rfl, by kernel_rfl⟩, by kernel_rfl⟩
def Ns (N : Nat) : List (Nat × ax) := [(93, uJ N)]
def anJ : ax := a_ [.d (.str) false, .bx ai] true [.d (.bool) false]
theorem af2 (N : Nat) (s : Txt) (p1 : List Txt) : aV (aT [.bool, ai]) (ay aG) (aU (Ns N)) aX N Xv anJ [⟨.str, s⟩, ⟨ai, p1⟩] = F.afT N s p1 := by kernel_rfl
def Zw (N : Nat) : ax := aF [.d (.str) false, .bx ai] true [.d (.bool) false] [.bool, ai] (F.afT N)
theorem adF (N : Nat) : au Tryz.prog 179 (Zw N) := aJ (N := N) bf mixed (ah (l := Ns N) (aN rfl (tC N) trivial)) (aC _) amO (by decide) fun s p1 => af2 N s p1
def amP : Nat → Option Ann
 | 0 => some ⟨⟨[(0, kp), (1, kp), (7, kp), (8, kp)], [(500001, [kp])], []⟩, [(0, ⟨[], [(500001, [kp])], []⟩)], ⟨[(4, kp)], [(500001, [kp])], []⟩⟩
 | _ => none
noncomputable def oZ : FI := ⟨Tryz.f183.results.toList, aK Tryz.f183.body, Tryz.f183.ntmps, amP⟩
theorem ale : bI Tryz.prog 183 oZ := ⟨⟨Tryz.f183, Tryz.func183, by kernel_rfl, rfl, rfl, by kernel_rfl⟩, by kernel_rfl⟩
def Bq (N : Nat) : List (Nat × ax) := [(179, Zw N)]
def Ye : ax := a_ [.d ai false, .cl 179 [ai]] true [.d aj false]
def ajD (s : List Txt) (t7 : Int) (t8 : Int) (fpc0 : List Txt) : St := ⟨[(0, vv ai s), (1, AV.w (V1.one (C.fn 179 [500001]))), (7, vv aj t7), (8, vv aj t8)], [(500001, .box [.v ai fpc0])]⟩
noncomputable def ahc (N : Nat) : Env := bQ (ay aG) (aU (Bq N)) aX N oZ [500001]
noncomputable def aqn := (dE (ay aG) oZ.res (kT (aT [aj, ai]) Ye [(500001, .bx ai)]))
noncomputable def WC (N : Nat) (n : Nat) : St → Option (Int × List Txt) := fun S' => iter [500001] (bH oZ 0) (code (ahc N) (bY oZ.body 0 0) 0) n S' (bg (ahc N) oZ.body 0 0 aqn)
noncomputable def JV (N : Nat) (s : List Txt) (t7 : Int) (n : Nat) : Int → (List Txt) → Option (Int × List Txt) := fun t8 fpc0 => WC N n (ajD s t7 t8 fpc0)
theorem aaT (N : Nat) : JV N = Uo N := funext fun s => funext fun t7 => funext (bz (by kernel_rfl) fun n => by
 show _ = FN N s t7 (JV N s t7 n)
 kernel_rfl)
theorem ahH (N : Nat) (s : List Txt) (p1 : List Txt) : aV (aT [aj, ai]) (ay aG) (aU (Bq N)) aX N oZ Ye [⟨ai, s⟩, ⟨ai, p1⟩] = F.ahV N s p1 := by
 show _ = F.adl N (F.Uo N) s p1
 rw [← aaT N]
 kernel_rfl
def ZZ (N : Nat) : ax := aF [.d ai false, .cl 179 [ai]] true [.d aj false] [aj, ai] (F.ahV N)
theorem ae_ (N : Nat) : au Tryz.prog 183 (ZZ N) := aJ (N := N) bf mixed (ah (l := Bq N) (aN rfl (adF N) trivial)) (aC _) ale (by decide) fun s p1 => ahH N s p1
def aqz : Nat → Option Ann := fun _ => none
noncomputable def akG : FI := ⟨Tryz.f165.results.toList, aK Tryz.f165.body, Tryz.f165.ntmps, aqz⟩
theorem aqr : bI Tryz.prog 165 akG := ⟨⟨Tryz.f165, Tryz.func165, by kernel_rfl, rfl, rfl, by kernel_rfl⟩, by kernel_rfl⟩
def QT (N : Nat) : List (Nat × ax) := [(18000183, ZZ N)]
def aqL : ax := a_ [.d ai false, .cl 179 [ai]] true [.d (.bool) false]
theorem anC (N : Nat) (s : List Txt) (p1 : List Txt) : aV (aT [.bool, ai]) (ay aG) (aU (QT N)) aX N akG aqL [⟨ai, s⟩, ⟨ai, p1⟩] = F.f_9 N s p1 := by kernel_rfl
def aiN (N : Nat) : ax := aF [.d ai false, .cl 179 [ai]] true [.d (.bool) false] [.bool, ai] (F.f_9 N)
theorem aoC (N : Nat) : au Tryz.prog 165 (aiN N) := aJ (N := N) bf mixed (ah (l := QT N) (aN rfl (ae_ N) trivial)) (aC _) aqr (by decide) fun s p1 => anC N s p1
def aoD : Nat → Option Ann := fun _ => none
noncomputable def ZF : FI := ⟨Tryz.f156.results.toList, aK Tryz.f156.body, Tryz.f156.ntmps, aoD⟩
theorem ama : bI Tryz.prog 156 ZF := ⟨⟨Tryz.f156, Tryz.func156, by kernel_rfl, rfl, rfl, by kernel_rfl⟩, by kernel_rfl⟩
def MI (N : Nat) : List (Nat × ax) := [(18000165, aiN N)]
def aov : ax := a_ [.d ai false, .d ai false] false [.d (.bool) false]
theorem aik (N : Nat) (a : List Txt) (b : List Txt) : aV (aT [.bool]) (ay aG) (aU (MI N)) aX N ZF aov [⟨ai, a⟩, ⟨ai, b⟩] = F.Q7 N a b := by kernel_rfl
def PX (N : Nat) : ax := aF [.d ai false, .d ai false] false [.d (.bool) false] [.bool] (F.Q7 N)
theorem QH (N : Nat) : au Tryz.prog 156 (PX N) := aJ (N := N) bf mixed (ah (l := MI N) (aN rfl (aoC N) trivial)) (aC _) ama (by decide) fun a b => aik N a b
def amX : Nat → Option Ann
 | 0 => some ⟨⟨[(1, kp), (3, kp), (40, kp), (41, kp), (42, kp)], [(1, [kp, kp, kp, kp, kp, kp])], []⟩, [(0, ⟨[(1, kp), (3, kp)], [(1, [kp, kp, kp, kp, kp, kp])], []⟩)], ⟨[(2, kp)], [], []⟩⟩
 | _ => none
noncomputable def pJ : FI := ⟨Tryz.f123.results.toList, aK Tryz.f123.body, Tryz.f123.ntmps, amX⟩
theorem aoU : bI Tryz.prog 123 pJ := ⟨⟨Tryz.f123, Tryz.func123, by kernel_rfl, rfl, rfl, by kernel_rfl⟩, by kernel_rfl⟩
def BA (N : Nat) : List (Nat × ax) := [(80, tN N), (113, Gv N), (114, yF N), (156, PX N)]
def Y8 : ax := a_ [.d aO true] false [.d (.bool) false]
def af7 (w : Want) (move3 : Bool) (t41 : Int) (t42 : Int) : St := ⟨[(1, vb 1), (3, vv Ty.bool move3), (40, vv bM.slice w.2.2.2.1), (41, vv aj t41), (42, vv aj t42)], [(1, .box [.v aj w.1, .v aj w.2.1, .v ai w.2.2.1, .v bM.slice w.2.2.2.1, .v ai w.2.2.2.2.1, .v ai w.2.2.2.2.2])]⟩
noncomputable def agQ (N : Nat) : Env := bQ (ay aG) (aU (BA N)) aX N pJ []
noncomputable def aqb := (dE (ay aG) pJ.res (kT (aT [.bool]) Y8 []))
noncomputable def TU (N : Nat) (n : Nat) : St → Option Bool := fun S' => iter [] (bH pJ 0) (code (agQ N) (bY pJ.body 0 0) 0) n S' (bg (agQ N) pJ.body 0 0 aqb)
noncomputable def JQ (N : Nat) (w : Want) (move3 : Bool) (t41 : Int) (n : Nat) : Int → Option Bool := fun t42 => TU N n (af7 w move3 t41 t42)
theorem abe (N : Nat) : JQ N = O0 N := funext fun w => funext fun move3 => funext fun t41 => funext (bz (by kernel_rfl) fun n => by
 show _ = uF N w move3 t41 (JQ N w move3 t41 n)
 kernel_rfl)
theorem ahQ (N : Nat) (w : Want) : aV (aT [.bool]) (ay aG) (aU (BA N)) aX N pJ Y8 [⟨aO, w⟩] = F.abv N w := by
 show _ = F.ajh N (F.O0 N) w
 rw [← abe N]
 kernel_rfl
def OY (N : Nat) : ax := aF [.d aO true] false [.d (.bool) false] [.bool] (F.abv N)
theorem QK (N : Nat) : au Tryz.prog 123 (OY N) := aJ (N := N) bf mixed (ah (l := BA N) (aN rfl (uD N) (aN rfl (Np N) (aN rfl (zI N) (aN rfl (QH N) trivial))))) (aC _) aoU (by decide) fun w => ahQ N w
def apa : Nat → Option Ann := fun _ => none
noncomputable def Xr : FI := ⟨Tryz.f90.results.toList, aK Tryz.f90.body, Tryz.f90.ntmps, apa⟩
theorem akX : bI Tryz.prog 90 Xr := ⟨⟨Tryz.f90, Tryz.func90, by kernel_rfl, rfl, rfl, by kernel_rfl⟩, by kernel_rfl⟩
def Lt (N : Nat) : List (Nat × ax) := []
def amG : ax := a_ [.d aZ true, .bx (.str)] true [.d (.bool) false]
theorem aeg (N : Nat) (s : aP) (p1 : Txt) : aV (aT [.bool, .str]) (ay aG) (aU (Lt N)) aX N Xr amG [⟨aZ, s⟩, ⟨.str, p1⟩] = F.alT N s p1 := by kernel_rfl
def YC (N : Nat) : ax := aF [.d aZ true, .bx (.str)] true [.d (.bool) false] [.bool, .str] (F.alT N)
theorem aeO (N : Nat) : au Tryz.prog 90 (YC N) := aJ (N := N) bf mixed (ah (l := Lt N) trivial) (aC _) akX (by decide) fun s p1 => aeg N s p1
def aql : Nat → Option Ann
 | 0 => some ⟨⟨[(0, kp), (1, kp), (7, kp), (8, kp)], [(500001, [kp])], []⟩, [(0, ⟨[], [(500001, [kp])], []⟩)], ⟨[(4, kp)], [(500001, [kp])], []⟩⟩
 | _ => none
noncomputable def wo : FI := ⟨Tryz.f89.results.toList, aK Tryz.f89.body, Tryz.f89.ntmps, aql⟩
theorem aqQ : bI Tryz.prog 89 wo := ⟨⟨Tryz.f89, Tryz.func89, by kernel_rfl, rfl, rfl, by kernel_rfl⟩, by kernel_rfl⟩
def FX (N : Nat) : List (Nat × ax) := [(90, YC N)]
def akJ : ax := a_ [.d (.slice aZ) false, .cl 90 [.str]] true [.d aj false]
def amH (s : List aP) (t7 : Int) (t8 : Int) (fpc0 : Txt) : St := ⟨[(0, vv aZ.slice s), (1, AV.w (V1.one (C.fn 90 [500001]))), (7, vv aj t7), (8, vv aj t8)], [(500001, .box [.v Ty.str fpc0])]⟩
noncomputable def apz (N : Nat) : Env := bQ (ay aG) (aU (FX N)) aX N wo [500001]
noncomputable def arq := (dE (ay aG) wo.res (kT (aT [aj, .str]) akJ [(500001, .bx (.str))]))
noncomputable def aa1 (N : Nat) (n : Nat) : St → Option (Int × Txt) := fun S' => iter [500001] (bH wo 0) (code (apz N) (bY wo.body 0 0) 0) n S' (bg (apz N) wo.body 0 0 arq)
noncomputable def Q_ (N : Nat) (s : List aP) (t7 : Int) (n : Nat) : Int → Txt → Option (Int × Txt) := fun t8 fpc0 => aa1 N n (amH s t7 t8 fpc0)
theorem aia (N : Nat) : Q_ N = akj N := funext fun s => funext fun t7 => funext (bz (by kernel_rfl) fun n => by
 show _ = PP N s t7 (Q_ N s t7 n)
 kernel_rfl)
theorem ang (N : Nat) (s : List aP) (p1 : Txt) : aV (aT [aj, .str]) (ay aG) (aU (FX N)) aX N wo akJ [⟨.slice aZ, s⟩, ⟨.str, p1⟩] = F.f_3 N s p1 := by
 show _ = F.ap4 N (F.akj N) s p1
 rw [← aia N]
 kernel_rfl
def agb (N : Nat) : ax := aF [.d (.slice aZ) false, .cl 90 [.str]] true [.d aj false] [aj, .str] (F.f_3 N)
theorem aoJ (N : Nat) : au Tryz.prog 89 (agb N) := aJ (N := N) bf mixed (ah (l := FX N) (aN rfl (aeO N) trivial)) (aC _) aqQ (by decide) fun s p1 => ang N s p1
def am7 : Nat → Option Ann := fun _ => none
noncomputable def Zk : FI := ⟨Tryz.f51.results.toList, aK Tryz.f51.body, Tryz.f51.ntmps, am7⟩
theorem aol : bI Tryz.prog 51 Zk := ⟨⟨Tryz.f51, Tryz.func51, by kernel_rfl, rfl, rfl, by kernel_rfl⟩, by kernel_rfl⟩
def JB (N : Nat) : List (Nat × ax) := [(9100089, agb N)]
def am_ : ax := a_ [.d aA true, .d (.str) false] false [.d aj false]
theorem ah4 (N : Nat) (b : Book) (n : Txt) : aV (aT [aj]) (ay aG) (aU (JB N)) aX N Zk am_ [⟨aA, b⟩, ⟨.str, n⟩] = F.zx N b n := by kernel_rfl
def oD (N : Nat) : ax := aF [.d aA true, .d (.str) false] false [.d aj false] [aj] (F.zx N)
theorem nZ (N : Nat) : au Tryz.prog 51 (oD N) := aJ (N := N) bf mixed (ah (l := JB N) (aN rfl (aoJ N) trivial)) (aC _) aol (by decide) fun b n => ah4 N b n
def alc : Nat → Option Ann := fun _ => none
noncomputable def Zj : FI := ⟨Tryz.f166.results.toList, aK Tryz.f166.body, Tryz.f166.ntmps, alc⟩
theorem am5 : bI Tryz.prog 166 Zj := ⟨⟨Tryz.f166, Tryz.func166, by kernel_rfl, rfl, rfl, by kernel_rfl⟩, by kernel_rfl⟩
def Lc (N : Nat) : List (Nat × ax) := [(93, uJ N)]
def anF : ax := a_ [.d (.str) false, .bx ai] true [.d (.bool) false]
theorem ajc (N : Nat) (s : Txt) (p1 : List Txt) : aV (aT [.bool, ai]) (ay aG) (aU (Lc N)) aX N Zj anF [⟨.str, s⟩, ⟨ai, p1⟩] = F.akE N s p1 := by kernel_rfl
def XR (N : Nat) : ax := aF [.d (.str) false, .bx ai] true [.d (.bool) false] [.bool, ai] (F.akE N)
theorem agn (N : Nat) : au Tryz.prog 166 (XR N) := aJ (N := N) bf mixed (ah (l := Lc N) (aN rfl (tC N) trivial)) (aC _) am5 (by decide) fun s p1 => ajc N s p1
def amI : Nat → Option Ann
 | 0 => some ⟨⟨[(0, kp), (1, kp), (7, kp), (8, kp)], [(500001, [kp])], []⟩, [(0, ⟨[], [(500001, [kp])], []⟩)], ⟨[(4, kp)], [(500001, [kp])], []⟩⟩
 | _ => none
noncomputable def qK : FI := ⟨Tryz.f183.results.toList, aK Tryz.f183.body, Tryz.f183.ntmps, amI⟩
theorem alY : bI Tryz.prog 183 qK := ⟨⟨Tryz.f183, Tryz.func183, by kernel_rfl, rfl, rfl, by kernel_rfl⟩, by kernel_rfl⟩
def BH (N : Nat) : List (Nat × ax) := [(166, XR N)]
def Yv : ax := a_ [.d ai false, .cl 166 [ai]] true [.d aj false]
def ajE (s : List Txt) (t7 : Int) (t8 : Int) (fpc0 : List Txt) : St := ⟨[(0, vv ai s), (1, AV.w (V1.one (C.fn 166 [500001]))), (7, vv aj t7), (8, vv aj t8)], [(500001, .box [.v ai fpc0])]⟩
noncomputable def afp (N : Nat) : Env := bQ (ay aG) (aU (BH N)) aX N qK [500001]
noncomputable def apM := (dE (ay aG) qK.res (kT (aT [aj, ai]) Yv [(500001, .bx ai)]))
noncomputable def WL (N : Nat) (n : Nat) : St → Option (Int × List Txt) := fun S' => iter [500001] (bH qK 0) (code (afp N) (bY qK.body 0 0) 0) n S' (bg (afp N) qK.body 0 0 apM)
noncomputable def JO (N : Nat) (s : List Txt) (t7 : Int) (n : Nat) : Int → (List Txt) → Option (Int × List Txt) := fun t8 fpc0 => WL N n (ajE s t7 t8 fpc0)
theorem acu (N : Nat) : JO N = Vt N := funext fun s => funext fun t7 => funext (bz (by kernel_rfl) fun n => by
 show _ = Es N s t7 (JO N s t7 n)
 kernel_rfl)
theorem aeC (N : Nat) (s : List Txt) (p1 : List Txt) : aV (aT [aj, ai]) (ay aG) (aU (BH N)) aX N qK Yv [⟨ai, s⟩, ⟨ai, p1⟩] = F.aei N s p1 := by
 show _ = F.aeJ N (F.Vt N) s p1
 rw [← acu N]
 kernel_rfl
def YY (N : Nat) : ax := aF [.d ai false, .cl 166 [ai]] true [.d aj false] [aj, ai] (F.aei N)
theorem acS (N : Nat) : au Tryz.prog 183 (YY N) := aJ (N := N) bf mixed (ah (l := BH N) (aN rfl (agn N) trivial)) (aC _) alY (by decide) fun s p1 => aeC N s p1
def alV : Nat → Option Ann := fun _ => none
noncomputable def Zi : FI := ⟨Tryz.f165.results.toList, aK Tryz.f165.body, Tryz.f165.ntmps, alV⟩
theorem anQ : bI Tryz.prog 165 Zi := ⟨⟨Tryz.f165, Tryz.func165, by kernel_rfl, rfl, rfl, by kernel_rfl⟩, by kernel_rfl⟩
def JF (N : Nat) : List (Nat × ax) := [(16700183, YY N)]
def alf : ax := a_ [.d ai false, .cl 166 [ai]] true [.d (.bool) false]
theorem aha (N : Nat) (s : List Txt) (p1 : List Txt) : aV (aT [.bool, ai]) (ay aG) (aU (JF N)) aX N Zi alf [⟨ai, s⟩, ⟨ai, p1⟩] = F.ana N s p1 := by kernel_rfl
def YO (N : Nat) : ax := aF [.d ai false, .cl 166 [ai]] true [.d (.bool) false] [.bool, ai] (F.ana N)
theorem aev (N : Nat) : au Tryz.prog 165 (YO N) := aJ (N := N) bf mixed (ah (l := JF N) (aN rfl (acS N) trivial)) (aC _) anQ (by decide) fun s p1 => aha N s p1
def aoK : Nat → Option Ann := fun _ => none
noncomputable def ZV : FI := ⟨Tryz.f129.results.toList, aK Tryz.f129.body, Tryz.f129.ntmps, aoK⟩
theorem ame : bI Tryz.prog 129 ZV := ⟨⟨Tryz.f129, Tryz.func129, by kernel_rfl, rfl, rfl, by kernel_rfl⟩, by kernel_rfl⟩
def Nw (N : Nat) : List (Nat × ax) := [(16700165, YO N)]
def aox : ax := a_ [.d ai false, .d ai false] false [.d (.bool) false]
theorem agF (N : Nat) (a : List Txt) (b : List Txt) : aV (aT [.bool]) (ay aG) (aU (Nw N)) aX N ZV aox [⟨ai, a⟩, ⟨ai, b⟩] = F.AY N a b := by kernel_rfl
def Fg (N : Nat) : ax := aF [.d ai false, .d ai false] false [.d (.bool) false] [.bool] (F.AY N)
theorem Gg (N : Nat) : au Tryz.prog 129 (Fg N) := aJ (N := N) bf mixed (ah (l := Nw N) (aN rfl (aev N) trivial)) (aC _) ame (by decide) fun a b => agF N a b
def al9 : Nat → Option Ann
 | 0 => some ⟨⟨[(2, kp), (3, kp), (8, kp), (9, kp), (10, kp)], [(2, [kp, kp, kp, kp, kp]), (3, [kp, kp, kp, kp, kp, kp])], []⟩, [(0, ⟨[(2, kp), (3, kp)], [(2, [kp, kp, kp, kp, kp]), (3, [kp, kp, kp, kp, kp, kp])], []⟩)], ⟨[(4, kp)], [], []⟩⟩
 | _ => none
noncomputable def pX : FI := ⟨Tryz.f124.results.toList, aK Tryz.f124.body, Tryz.f124.ntmps, al9⟩
theorem an3 : bI Tryz.prog 124 pX := ⟨⟨Tryz.f124, Tryz.func124, by kernel_rfl, rfl, rfl, by kernel_rfl⟩, by kernel_rfl⟩
def Bd (N : Nat) : List (Nat × ax) := [(51, oD N), (129, Fg N)]
def ZH : ax := a_ [.d aA true, .d aO true] false [.d (.bool) false]
def agz (b : Book) (w : Want) (t9 : Int) (t10 : Int) : St := ⟨[(2, vb 2), (3, vb 3), (8, vv bM.slice w.2.2.2.1), (9, vv aj t9), (10, vv aj t10)], [(2, .box [.v bT.slice b.1, .v aZ.slice b.2.1, .v ai b.2.2.1, .v bi.slice b.2.2.2.1, .v aj b.2.2.2.2]), (3, .box [.v aj w.1, .v aj w.2.1, .v ai w.2.2.1, .v bM.slice w.2.2.2.1, .v ai w.2.2.2.2.1, .v ai w.2.2.2.2.2])]⟩
noncomputable def ajV (N : Nat) : Env := bQ (ay aG) (aU (Bd N)) aX N pX []
noncomputable def aqE := (dE (ay aG) pX.res (kT (aT [.bool]) ZH []))
noncomputable def U_ (N : Nat) (n : Nat) : St → Option Bool := fun S' => iter [] (bH pX 0) (code (ajV N) (bY pX.body 0 0) 0) n S' (bg (ajV N) pX.body 0 0 aqE)
noncomputable def KN (N : Nat) (b : Book) (w : Want) (t9 : Int) (n : Nat) : Int → Option Bool := fun t10 => U_ N n (agz b w t9 t10)
theorem aav (N : Nat) : KN N = V_ N := funext fun b => funext fun w => funext fun t9 => funext (bz (by kernel_rfl) fun n => by
 show _ = Fh N b w t9 (KN N b w t9 n)
 kernel_rfl)
theorem ajQ (N : Nat) (b : Book) (w : Want) : aV (aT [.bool]) (ay aG) (aU (Bd N)) aX N pX ZH [⟨aA, b⟩, ⟨aO, w⟩] = F.aca N b w := by
 show _ = F.ajx N (F.V_ N) b w
 rw [← aav N]
 kernel_rfl
def NR (N : Nat) : ax := aF [.d aA true, .d aO true] false [.d (.bool) false] [.bool] (F.aca N)
theorem Rf (N : Nat) : au Tryz.prog 124 (NR N) := aJ (N := N) bf mixed (ah (l := Bd N) (aN rfl (nZ N) (aN rfl (Gg N) trivial))) (aC _) an3 (by decide) fun b w => ajQ N b w
def apf : Nat → Option Ann
 | 0 => some ⟨⟨[(2, kp), (5, kp), (28, kp), (29, kp), (30, kp)], [(2, [kp, kp, kp, kp, kp]), (5, [kp, kp, kp, kp, kp, kp])], []⟩, [(0, ⟨[], [], []⟩)], ⟨[(4, kp)], [], []⟩⟩
 | _ => none
noncomputable def qm : FI := ⟨Tryz.f117.results.toList, aK Tryz.f117.body, Tryz.f117.ntmps, apf⟩
theorem alR : bI Tryz.prog 117 qm := ⟨⟨Tryz.f117, Tryz.func117, by kernel_rfl, rfl, rfl, by kernel_rfl⟩, by kernel_rfl⟩
def AZ (N : Nat) : List (Nat × ax) := [(123, OY N), (124, NR N), (51, oD N), (129, Fg N)]
def X8 : ax := a_ [.d aA true, .d bi true] false [.d (.bool) false]
def ajA (b : Book) (p : Part) (t29 : Int) (t30 : Int) : St := ⟨[(2, vb 2), (5, vb 5), (28, vv bM.slice p.1.2.2.2.1), (29, vv aj t29), (30, vv aj t30)], [(2, .box [.v bT.slice b.1, .v aZ.slice b.2.1, .v ai b.2.2.1, .v bi.slice b.2.2.2.1, .v aj b.2.2.2.2]), (5, .box [.v aj p.1.1, .v aj p.1.2.1, .v ai p.1.2.2.1, .v bM.slice p.1.2.2.2.1, .v ai p.1.2.2.2.2.1, .v ai p.1.2.2.2.2.2])]⟩
noncomputable def af6 (N : Nat) : Env := bQ (ay aG) (aU (AZ N)) aX N qm []
noncomputable def apR := (dE (ay aG) qm.res (kT (aT [.bool]) X8 []))
noncomputable def UD (N : Nat) (n : Nat) : St → Option Bool := fun S' => iter [] (bH qm 0) (code (af6 N) (bY qm.body 0 0) 0) n S' (bg (af6 N) qm.body 0 0 apR)
noncomputable def Jz (N : Nat) (b : Book) (p : Part) (t29 : Int) (n : Nat) : Int → Option Bool := fun t30 => UD N n (ajA b p t29 t30)
theorem aa3 (N : Nat) : Jz N = Vh N := funext fun b => funext fun p => funext fun t29 => funext (bz (by kernel_rfl) fun n => by
 show _ = Fa N b p t29 (Jz N b p t29 n)
 kernel_rfl)
theorem aec (N : Nat) (b : Book) (p : Part) : aV (aT [.bool]) (ay aG) (aU (AZ N)) aX N qm X8 [⟨aA, b⟩, ⟨bi, p⟩] = F.aay N b p := by
 show _ = F.aeF N (F.Vh N) b p
 rw [← aa3 N]
 kernel_rfl
def Ze (N : Nat) : ax := aF [.d aA true, .d bi true] false [.d (.bool) false] [.bool] (F.aay N)
theorem ac1 (N : Nat) : au Tryz.prog 117 (Ze N) := aJ (N := N) bf mixed (ah (l := AZ N) (aN rfl (QK N) (aN rfl (Rf N) (aN rfl (nZ N) (aN rfl (Gg N) trivial))))) (aC _) alR (by decide) fun b p => aec N b p
def amY : Nat → Option Ann := fun _ => none
noncomputable def Zl : FI := ⟨Tryz.f155.results.toList, aK Tryz.f155.body, Tryz.f155.ntmps, amY⟩
theorem akW : bI Tryz.prog 155 Zl := ⟨⟨Tryz.f155, Tryz.func155, by kernel_rfl, rfl, rfl, by kernel_rfl⟩, by kernel_rfl⟩
def JR (N : Nat) : List (Nat × ax) := []
def anY : ax := a_ [.d bM true, .bx bM] true [.d (.bool) false]
theorem adb (N : Nat) (v : Use) (p1 : Use) : aV (aT [.bool, bM]) (ay aG) (aU (JR N)) aX N Zl anY [⟨bM, v⟩, ⟨bM, p1⟩] = F.anU N v p1 := by kernel_rfl
def Y7 (N : Nat) : ax := aF [.d bM true, .bx bM] true [.d (.bool) false] [.bool, bM] (F.anU N)
theorem ai8 (N : Nat) : au Tryz.prog 155 (Y7 N) := aJ (N := N) bf mixed (ah (l := JR N) trivial) (aC _) akW (by decide) fun v p1 => adb N v p1
def aqU : Nat → Option Ann
 | 0 => some ⟨⟨[(0, kp), (1, kp), (7, kp), (8, kp)], [(500001, [kp, kp, kp])], []⟩, [(0, ⟨[], [(500001, [kp, kp, kp])], []⟩)], ⟨[(4, kp)], [(500001, [kp, kp, kp])], []⟩⟩
 | _ => none
noncomputable def vV : FI := ⟨Tryz.f178.results.toList, aK Tryz.f178.body, Tryz.f178.ntmps, aqU⟩
theorem ap9 : bI Tryz.prog 178 vV := ⟨⟨Tryz.f178, Tryz.func178, by kernel_rfl, rfl, rfl, by kernel_rfl⟩, by kernel_rfl⟩
def Ht (N : Nat) : List (Nat × ax) := [(155, Y7 N)]
def adL : ax := a_ [.d (.slice bM) false, .cl 155 [bM]] true [.d aj false]
def api (s : List Use) (t7 : Int) (t8 : Int) (fpc0 : Txt) (fpc1 : Int) (fpc2 : Int) : St := ⟨[(0, vv bM.slice s), (1, AV.w (V1.one (C.fn 155 [500001]))), (7, vv aj t7), (8, vv aj t8)], [(500001, .box [.v Ty.str fpc0, .v aj fpc1, .v aj fpc2])]⟩
noncomputable def apA (N : Nat) : Env := bQ (ay aG) (aU (Ht N)) aX N vV [500001]
noncomputable def arD := (dE (ay aG) vV.res (kT (aT [aj, bM]) adL [(500001, .bx bM)]))
noncomputable def abI (N : Nat) (n : Nat) : St → Option (Int × Use) := fun S' => iter [500001] (bH vV 0) (code (apA N) (bY vV.body 0 0) 0) n S' (bg (apA N) vV.body 0 0 arD)
noncomputable def P7 (N : Nat) (s : List Use) (t7 : Int) (n : Nat) : Int → Txt → Int → Int → Option (Int × Use) := fun t8 fpc0 fpc1 fpc2 => abI N n (api s t7 t8 fpc0 fpc1 fpc2)
theorem ajy (N : Nat) : P7 N = ad2 N := funext fun s => funext fun t7 => funext (bz (by kernel_rfl) fun n => by
 show _ = IQ N s t7 (P7 N s t7 n)
 kernel_rfl)
theorem al7 (N : Nat) (s : List Use) (p1 : Use) : aV (aT [aj, bM]) (ay aG) (aU (Ht N)) aX N vV adL [⟨.slice bM, s⟩, ⟨bM, p1⟩] = F.f_8 N s p1 := by
 show _ = F.aqc N (F.ad2 N) s p1
 rw [← ajy N]
 kernel_rfl
def aez (N : Nat) : ax := aF [.d (.slice bM) false, .cl 155 [bM]] true [.d aj false] [aj, bM] (F.f_8 N)
theorem ak_ (N : Nat) : au Tryz.prog 178 (aez N) := aJ (N := N) bf mixed (ah (l := Ht N) (aN rfl (ai8 N) trivial)) (aC _) ap9 (by decide) fun s p1 => al7 N s p1
def aqW : Nat → Option Ann := fun _ => none
noncomputable def afL : FI := ⟨Tryz.f153.results.toList, aK Tryz.f153.body, Tryz.f153.ntmps, aqW⟩
theorem aq8 : bI Tryz.prog 153 afL := ⟨⟨Tryz.f153, Tryz.func153, by kernel_rfl, rfl, rfl, by kernel_rfl⟩, by kernel_rfl⟩
def Tt (N : Nat) : List (Nat × ax) := [(15600178, aez N)]
def aqC : ax := a_ [.d (.slice bM) false, .cl 155 [bM]] true [.d (.bool) false]
theorem anq (N : Nat) (s : List Use) (p1 : Use) : aV (aT [.bool, bM]) (ay aG) (aU (Tt N)) aX N afL aqC [⟨.slice bM, s⟩, ⟨bM, p1⟩] = F.f_4 N s p1 := by kernel_rfl
def ah3 (N : Nat) : ax := aF [.d (.slice bM) false, .cl 155 [bM]] true [.d (.bool) false] [.bool, bM] (F.f_4 N)
theorem ani (N : Nat) : au Tryz.prog 153 (ah3 N) := aJ (N := N) bf mixed (ah (l := Tt N) (aN rfl (ak_ N) trivial)) (aC _) aq8 (by decide) fun s p1 => anq N s p1
def ao3 : Nat → Option Ann := fun _ => none
noncomputable def Zx : FI := ⟨Tryz.f154.results.toList, aK Tryz.f154.body, Tryz.f154.ntmps, ao3⟩
theorem ali : bI Tryz.prog 154 Zx := ⟨⟨Tryz.f154, Tryz.func154, by kernel_rfl, rfl, rfl, by kernel_rfl⟩, by kernel_rfl⟩
def KO (N : Nat) : List (Nat × ax) := [(15600153, ah3 N)]
def an2 : ax := a_ [.d bM true, .bx aO] true [.d (.bool) false]
theorem ai7 (N : Nat) (u : Use) (p1 : Want) : aV (aT [.bool, aO]) (ay aG) (aU (KO N)) aX N Zx an2 [⟨bM, u⟩, ⟨aO, p1⟩] = F.abg N u p1 := by kernel_rfl
def ZY (N : Nat) : ax := aF [.d bM true, .bx aO] true [.d (.bool) false] [.bool, aO] (F.abg N)
theorem agW (N : Nat) : au Tryz.prog 154 (ZY N) := aJ (N := N) bf mixed (ah (l := KO N) (aN rfl (ani N) trivial)) (aC _) ali (by decide) fun u p1 => ai7 N u p1
def ao1 : Nat → Option Ann
 | 0 => some ⟨⟨[(0, kp), (1, kp), (7, kp), (8, kp)], [(500001, [kp, kp, kp, kp, kp, kp])], []⟩, [(0, ⟨[], [(500001, [kp, kp, kp, kp, kp, kp])], []⟩)], ⟨[(4, kp)], [(500001, [kp, kp, kp, kp, kp, kp])], []⟩⟩
 | _ => none
noncomputable def qM : FI := ⟨Tryz.f178.results.toList, aK Tryz.f178.body, Tryz.f178.ntmps, ao1⟩
theorem al0 : bI Tryz.prog 178 qM := ⟨⟨Tryz.f178, Tryz.func178, by kernel_rfl, rfl, rfl, by kernel_rfl⟩, by kernel_rfl⟩
def CZ (N : Nat) : List (Nat × ax) := [(154, ZY N)]
def Y5 : ax := a_ [.d (.slice bM) false, .cl 154 [aO]] true [.d aj false]
def ae8 (s : List Use) (t7 : Int) (t8 : Int) (fpc0 : Int) (fpc1 : Int) (fpc2 : List Txt) (fpc3 : List Use) (fpc4 : List Txt) (fpc5 : List Txt) : St := ⟨[(0, vv bM.slice s), (1, AV.w (V1.one (C.fn 154 [500001]))), (7, vv aj t7), (8, vv aj t8)], [(500001, .box [.v aj fpc0, .v aj fpc1, .v ai fpc2, .v bM.slice fpc3, .v ai fpc4, .v ai fpc5])]⟩
noncomputable def air (N : Nat) : Env := bQ (ay aG) (aU (CZ N)) aX N qM [500001]
noncomputable def aqF := (dE (ay aG) qM.res (kT (aT [aj, aO]) Y5 [(500001, .bx aO)]))
noncomputable def Uf (N : Nat) (n : Nat) : St → Option (Int × Want) := fun S' => iter [500001] (bH qM 0) (code (air N) (bY qM.body 0 0) 0) n S' (bg (air N) qM.body 0 0 aqF)
noncomputable def MG (N : Nat) (s : List Use) (t7 : Int) (n : Nat) : Int → Int → Int → (List Txt) → (List Use) → (List Txt) → (List Txt) → Option (Int × Want) := fun t8 fpc0 fpc1 fpc2 fpc3 fpc4 fpc5 => Uf N n (ae8 s t7 t8 fpc0 fpc1 fpc2 fpc3 fpc4 fpc5)
theorem abq (N : Nat) : MG N = Ve N := funext fun s => funext fun t7 => funext (bz (by kernel_rfl) fun n => by
 show _ = xN N s t7 (MG N s t7 n)
 kernel_rfl)
theorem ahq (N : Nat) (s : List Use) (p1 : Want) : aV (aT [aj, aO]) (ay aG) (aU (CZ N)) aX N qM Y5 [⟨.slice bM, s⟩, ⟨aO, p1⟩] = F.aeh N s p1 := by
 show _ = F.aex N (F.Ve N) s p1
 rw [← abq N]
 kernel_rfl
def ZB (N : Nat) : ax := aF [.d (.slice bM) false, .cl 154 [aO]] true [.d aj false] [aj, aO] (F.aeh N)
theorem agY (N : Nat) : au Tryz.prog 178 (ZB N) := aJ (N := N) bf mixed (ah (l := CZ N) (aN rfl (agW N) trivial)) (aC _) al0 (by decide) fun s p1 => ahq N s p1
def arb : Nat → Option Ann := fun _ => none
noncomputable def adz : FI := ⟨Tryz.f153.results.toList, aK Tryz.f153.body, Tryz.f153.ntmps, arb⟩
theorem aqo : bI Tryz.prog 153 adz := ⟨⟨Tryz.f153, Tryz.func153, by kernel_rfl, rfl, rfl, by kernel_rfl⟩, by kernel_rfl⟩
def RJ (N : Nat) : List (Nat × ax) := [(15500178, ZB N)]
def apW : ax := a_ [.d (.slice bM) false, .cl 154 [aO]] true [.d (.bool) false]
theorem am6 (N : Nat) (s : List Use) (p1 : Want) : aV (aT [.bool, aO]) (ay aG) (aU (RJ N)) aX N adz apW [⟨.slice bM, s⟩, ⟨aO, p1⟩] = F.f_7 N s p1 := by kernel_rfl
def agw (N : Nat) : ax := aF [.d (.slice bM) false, .cl 154 [aO]] true [.d (.bool) false] [.bool, aO] (F.f_7 N)
theorem alE (N : Nat) : au Tryz.prog 153 (agw N) := aJ (N := N) bf mixed (ah (l := RJ N) (aN rfl (agY N) trivial)) (aC _) aqo (by decide) fun s p1 => am6 N s p1
def ahp : Nat → Option Ann := fun _ => none
noncomputable def RU : FI := ⟨Tryz.f118.results.toList, aK Tryz.f118.body, Tryz.f118.ntmps, ahp⟩
theorem afw : bI Tryz.prog 118 RU := ⟨⟨Tryz.f118, Tryz.func118, by kernel_rfl, rfl, rfl, by kernel_rfl⟩, by kernel_rfl⟩
def GU (N : Nat) : List (Nat × ax) := [(15500153, agw N)]
def adh : ax := a_ [.d aO true, .d aO true] false [.d (.bool) false]
theorem ab3 (N : Nat) (a : Want) (b : Want) : aV (aT [.bool]) (ay aG) (aU (GU N)) aX N RU adh [⟨aO, a⟩, ⟨aO, b⟩] = F.FW N a b := by kernel_rfl
def Gi (N : Nat) : ax := aF [.d aO true, .d aO true] false [.d (.bool) false] [.bool] (F.FW N)
theorem JX (N : Nat) : au Tryz.prog 118 (Gi N) := aJ (N := N) bf mixed (ah (l := GU N) (aN rfl (alE N) trivial)) (aC _) afw (by decide) fun a b => ab3 N a b
def aid : Nat → Option Ann := fun _ => none
noncomputable def Qw : FI := ⟨Tryz.f119.results.toList, aK Tryz.f119.body, Tryz.f119.ntmps, aid⟩
theorem ac_ : bI Tryz.prog 119 Qw := ⟨⟨Tryz.f119, Tryz.func119, by kernel_rfl, rfl, rfl, by kernel_rfl⟩, by kernel_rfl⟩
def H7 (N : Nat) : List (Nat × ax) := [(156, PX N)]
def aiI : ax := a_ [.d aO true, .d aO true] false [.d (.bool) false]
theorem acJ (N : Nat) (a : Want) (b : Want) : aV (aT [.bool]) (ay aG) (aU (H7 N)) aX N Qw aiI [⟨aO, a⟩, ⟨aO, b⟩] = F.F7 N a b := by kernel_rfl
def IM (N : Nat) : ax := aF [.d aO true, .d aO true] false [.d (.bool) false] [.bool] (F.F7 N)
theorem JM (N : Nat) : au Tryz.prog 119 (IM N) := aJ (N := N) bf mixed (ah (l := H7 N) (aN rfl (QH N) trivial)) (aC _) ac_ (by decide) fun a b => acJ N a b
def akT : Nat → Option Ann
 | 0 => some ⟨⟨[(1, kp), (40, kp), (41, kp), (42, kp)], [(1, [kp, kp, kp, kp, kp])], []⟩, [(0, ⟨[(1, kp)], [(1, [kp, kp, kp, kp, kp])], []⟩)], ⟨[(2, kp)], [], []⟩⟩
 | 2 => some ⟨⟨[(1, kp), (81, kp), (82, kp), (83, kp)], [(1, [kp, kp, kp, kp, kp])], []⟩, [(2, ⟨[(1, kp)], [(1, [kp, kp, kp, kp, kp])], []⟩)], ⟨[(2, kp)], [], []⟩⟩
 | 4 => some ⟨⟨[(1, kp), (149, kp), (150, kp), (151, kp)], [(1, [kp, kp, kp, kp, kp])], []⟩, [(4, ⟨[], [], []⟩)], ⟨[(2, kp)], [], []⟩⟩
 | 6 => some ⟨⟨[(1, kp), (8, kp), (149, kp), (150, kp), (151, kp), (181, kp), (182, kp), (183, kp)], [(1, [kp, kp, kp, kp, kp]), (8, [kp, kp, kp, kp, kp, kp, kp])], []⟩, [(6, ⟨[(1, kp), (149, kp), (150, kp), (151, kp)], [(1, [kp, kp, kp, kp, kp])], []⟩)], ⟨[(2, kp)], [], []⟩⟩
 | _ => none
noncomputable def eU : FI := ⟨Tryz.f79.results.toList, aK Tryz.f79.body, Tryz.f79.ntmps, akT⟩
theorem aoz : bI Tryz.prog 79 eU := ⟨⟨Tryz.f79, Tryz.func79, by kernel_rfl, rfl, rfl, by kernel_rfl⟩, by kernel_rfl⟩
def zU (N : Nat) : List (Nat × ax) := [(113, Gv N), (80, tN N), (114, yF N), (115, YZ N), (116, OL N), (117, Ze N), (118, Gi N), (119, IM N)]
def Yh : ax := a_ [.d aA true] false [.d (.bool) false]
def ah7 (b : Book) (t150 : Int) (t151 : Int) (t181 : List Part) (t182 : Int) (p8c0 : Int) (p8c1 : Int) (p8c2 : List Txt) (p8c3 : List Use) (p8c4 : List Txt) (p8c5 : List Txt) (p8c6 : Bool) (t183 : Int) : St := ⟨[(1, vb 1), (8, vb 8), (149, vv bi.slice b.2.2.2.1), (150, vv aj t150), (151, vv aj t151), (181, vv bi.slice t181), (182, vv aj t182), (183, vv aj t183)], [(1, .box [.v bT.slice b.1, .v aZ.slice b.2.1, .v ai b.2.2.1, .v bi.slice b.2.2.2.1, .v aj b.2.2.2.2]), (8, .box [.v aj p8c0, .v aj p8c1, .v ai p8c2, .v bM.slice p8c3, .v ai p8c4, .v ai p8c5, .v Ty.bool p8c6])]⟩
def GN (b : Book) (t150 : Int) (t151 : Int) : St := ⟨[(1, vb 1), (149, vv bi.slice b.2.2.2.1), (150, vv aj t150), (151, vv aj t151)], [(1, .box [.v bT.slice b.1, .v aZ.slice b.2.1, .v ai b.2.2.1, .v bi.slice b.2.2.2.1, .v aj b.2.2.2.2])]⟩
def ad1 (b : Book) (t82 : Int) (t83 : Int) : St := ⟨[(1, vb 1), (81, vv aZ.slice b.2.1), (82, vv aj t82), (83, vv aj t83)], [(1, .box [.v bT.slice b.1, .v aZ.slice b.2.1, .v ai b.2.2.1, .v bi.slice b.2.2.2.1, .v aj b.2.2.2.2])]⟩
def adq (b : Book) (t41 : Int) (t42 : Int) : St := ⟨[(1, vb 1), (40, vv bT.slice b.1), (41, vv aj t41), (42, vv aj t42)], [(1, .box [.v bT.slice b.1, .v aZ.slice b.2.1, .v ai b.2.2.1, .v bi.slice b.2.2.2.1, .v aj b.2.2.2.2])]⟩
noncomputable def oL (N : Nat) : Env := bQ (ay aG) (aU (zU N)) aX N eU []
noncomputable def NZ := (dE (ay aG) eU.res (kT (aT [.bool]) Yh []))
noncomputable def VE (N : Nat) (nxS4 : St → Option Bool) (n : Nat) : St → Option Bool := fun S' => iter [] (bH eU 6) (code (oL N) (bY (bY eU.body 0 4) 4 6) 6) n S' (bg (oL N) (bY eU.body 0 4) 4 6 (KX [] (bH eU 4) nxS4 (bg (oL N) eU.body 0 4 NZ)))
noncomputable def AU (N : Nat) (nxS4 : St → Option Bool) (b : Book) (t150 : Int) (t151 : Int) (t181 : List Part) (t182 : Int) (p8c0 : Int) (p8c1 : Int) (p8c2 : List Txt) (p8c3 : List Use) (p8c4 : List Txt) (p8c5 : List Txt) (p8c6 : Bool) (n : Nat) : Int → Option Bool := fun t183 => VE N nxS4 n (ah7 b t150 t151 t181 t182 p8c0 p8c1 p8c2 p8c3 p8c4 p8c5 p8c6 t183)
theorem acd (N : Nat) (nxS4 : St → Option Bool) (b : Book) (t150 : Int) : AU N nxS4 b t150 = G6 N (fun t151 => nxS4 (GN b t150 t151)) b t150 := funext fun t151 => funext fun t181 => funext fun t182 => funext fun p8c0 => funext fun p8c1 => funext fun p8c2 => funext fun p8c3 => funext fun p8c4 => funext fun p8c5 => funext fun p8c6 => funext (bz (by kernel_rfl) fun n => by
 show _ = D_ N (fun t151 => nxS4 (GN b t150 t151)) b t150 t151 t181 t182 p8c0 p8c1 p8c2 p8c3 p8c4 p8c5 p8c6 (AU N nxS4 b t150 t151 t181 t182 p8c0 p8c1 p8c2 p8c3 p8c4 p8c5 p8c6 n)
 kernel_rfl)
noncomputable def wK (N : Nat) (n : Nat) : St → Option Bool := fun S' => iter [] (bH eU 4) (code (oL N) (bY eU.body 0 4) 4) n S' (bg (oL N) eU.body 0 4 NZ)
noncomputable def n_ (N : Nat) (b : Book) (t150 : Int) (n : Nat) : Int → Option Bool := fun t151 => wK N n (GN b t150 t151)
theorem aaj (N : Nat) : n_ N = A8 N := funext fun b => funext fun t150 => funext (bz (by kernel_rfl) fun n => by
 show _ = Ef N (G6 N (n_ N b t150 n) b t150) b t150 (n_ N b t150 n)
 rw [show G6 N (n_ N b t150 n) b t150 = AU N (wK N n) b t150 from (acd N (wK N n) b t150).symm]
 kernel_rfl)
noncomputable def Vr (N : Nat) (n : Nat) : St → Option Bool := fun S' => iter [] (bH eU 2) (code (oL N) (bY eU.body 0 2) 2) n S' (bg (oL N) eU.body 0 2 NZ)
noncomputable def zN (N : Nat) (b : Book) (t82 : Int) (n : Nat) : Int → Option Bool := fun t83 => Vr N n (ad1 b t82 t83)
theorem ab1 (N : Nat) : zN N = zZ N := funext fun b => funext fun t82 => funext (bz (by kernel_rfl) fun n => by
 show _ = FO N (A8 N) b t82 (zN N b t82 n)
 rw [show A8 N = n_ N from (aaj N).symm]
 kernel_rfl)
noncomputable def Ui (N : Nat) (n : Nat) : St → Option Bool := fun S' => iter [] (bH eU 0) (code (oL N) (bY eU.body 0 0) 0) n S' (bg (oL N) eU.body 0 0 NZ)
noncomputable def LJ (N : Nat) (b : Book) (t41 : Int) (n : Nat) : Int → Option Bool := fun t42 => Ui N n (adq b t41 t42)
theorem acK (N : Nat) : LJ N = PT N := funext fun b => funext fun t41 => funext (bz (by kernel_rfl) fun n => by
 show _ = EO N (zZ N) b t41 (LJ N b t41 n)
 rw [show zZ N = zN N from (ab1 N).symm]
 kernel_rfl)
theorem agG (N : Nat) (b : Book) : aV (aT [.bool]) (ay aG) (aU (zU N)) aX N eU Yh [⟨aA, b⟩] = F.Jv N b := by
 show _ = F.aiW N (F.PT N) b
 rw [← acK N]
 kernel_rfl
def oK (N : Nat) : ax := aF [.d aA true] false [.d (.bool) false] [.bool] (F.Jv N)
theorem nG (N : Nat) : au Tryz.prog 79 (oK N) := aJ (N := N) bf mixed (ah (l := zU N) (aN rfl (Np N) (aN rfl (uD N) (aN rfl (zI N) (aN rfl (ae6 N) (aN rfl (Q9 N) (aN rfl (ac1 N) (aN rfl (JX N) (aN rfl (JM N) trivial))))))))) (aC _) aoz (by decide) fun b => agG N b
def alA : Nat → Option Ann := fun _ => none
noncomputable def Xy : FI := ⟨Tryz.f40.results.toList, aK Tryz.f40.body, Tryz.f40.ntmps, alA⟩
theorem anL : bI Tryz.prog 40 Xy := ⟨⟨Tryz.f40, Tryz.func40, by kernel_rfl, rfl, rfl, by kernel_rfl⟩, by kernel_rfl⟩
def JS (N : Nat) : List (Nat × ax) := [(79, oK N)]
def ak1 : ax := a_ [.bx aA, .d aA true] true [.d (.str) false]
theorem ac5 (N : Nat) (s : Book) (b : Book) : aV (aT [.str, aA]) (ay aG) (aU (JS N)) aX N Xy ak1 [⟨aA, s⟩, ⟨aA, b⟩] = F.UX N s b := by kernel_rfl
def WW (N : Nat) : ax := aF [.bx aA, .d aA true] true [.d (.str) false] [.str, aA] (F.UX N)
theorem akr (N : Nat) : au Tryz.prog 40 (WW N) := aJ (N := N) bf mixed (ah (l := JS N) (aN rfl (nG N) trivial)) (aC _) anL (by decide) fun s b => ac5 N s b
def anz : Nat → Option Ann
 | 0 => some ⟨⟨[(0, kp), (3, kp)], [], []⟩, [(0, ⟨[(0, kp)], [], []⟩)], ⟨[(2, kp)], [], []⟩⟩
 | _ => none
noncomputable def qY : FI := ⟨Tryz.f43.results.toList, aK Tryz.f43.body, Tryz.f43.ntmps, anz⟩
theorem aoR : bI Tryz.prog 43 qY := ⟨⟨Tryz.f43, Tryz.func43, by kernel_rfl, rfl, rfl, by kernel_rfl⟩, by kernel_rfl⟩
def CQ (N : Nat) : List (Nat × ax) := [(80, tN N), (81, jY N)]
def Zm : ax := a_ [.d (.str) false] false [.d aj false]
def aiC (s : Txt) (i3 : Int) : St := ⟨[(0, vv Ty.str s), (3, vv aj i3)], []⟩
noncomputable def afi (N : Nat) : Env := bQ (ay aG) (aU (CQ N)) aX N qY []
noncomputable def apP := (dE (ay aG) qY.res (kT (aT [aj]) Zm []))
noncomputable def Wn (N : Nat) (n : Nat) : St → Option Int := fun S' => iter [] (bH qY 0) (code (afi N) (bY qY.body 0 0) 0) n S' (bg (afi N) qY.body 0 0 apP)
noncomputable def KA (N : Nat) (s : Txt) (n : Nat) : Int → Option Int := fun i3 => Wn N n (aiC s i3)
theorem aa_ (N : Nat) : KA N = O5 N := funext fun s => funext (bz (by kernel_rfl) fun n => by
 show _ = Et N s (KA N s n)
 kernel_rfl)
theorem aj7 (N : Nat) (s : Txt) : aV (aT [aj]) (ay aG) (aU (CQ N)) aX N qY Zm [⟨.str, s⟩] = F.uT N s := by
 show _ = F.aie N (F.O5 N) s
 rw [← aa_ N]
 kernel_rfl
def OB (N : Nat) : ax := aF [.d (.str) false] false [.d aj false] [aj] (F.uT N)
theorem Tj (N : Nat) : au Tryz.prog 43 (OB N) := aJ (N := N) bf mixed (ah (l := CQ N) (aN rfl (uD N) (aN rfl (zX N) trivial))) (aC _) aoR (by decide) fun s => aj7 N s
def ai6 : Nat → Option Ann := fun _ => none
noncomputable def Q5 : FI := ⟨Tryz.f45.results.toList, aK Tryz.f45.body, Tryz.f45.ntmps, ai6⟩
theorem aes : bI Tryz.prog 45 Q5 := ⟨⟨Tryz.f45, Tryz.func45, by kernel_rfl, rfl, rfl, by kernel_rfl⟩, by kernel_rfl⟩
def Ii (N : Nat) : List (Nat × ax) := [(10, fM N)]
def aed : ax := a_ [.d (.str) false] true [.d ai false]
theorem aba (N : Nat) (s : Txt) : aV (aT [ai]) (ay aG) (aU (Ii N)) aX N Q5 aed [⟨.str, s⟩] = F.mO N s := by kernel_rfl
def IE (N : Nat) : ax := aF [.d (.str) false] true [.d ai false] [ai] (F.mO N)
theorem LC (N : Nat) : au Tryz.prog 45 (IE N) := aJ (N := N) bf mixed (ah (l := Ii N) (aN rfl (iW N) trivial)) (aC _) aes (by decide) fun s => aba N s
def ah5 : Nat → Option Ann
 | 0 => some ⟨⟨[(3, .own 700003 101 bM), (14, kp), (15, kp), (16, kp)], [], []⟩, [(0, ⟨[(3, .own 700003 101 bM)], [], []⟩)], ⟨[], [], []⟩⟩
 | 2 => some ⟨⟨[(3, .own 700003 101 bM), (5, kp), (6, kp), (14, kp), (15, kp), (16, kp), (22, .own 700022 9 Ty.str), (23, kp), (24, kp)], [(6, [kp, kp, kp])], []⟩, [(2, ⟨[(3, .own 700003 101 bM), (6, kp), (14, kp), (15, kp), (16, kp)], [(6, [kp, kp, kp])], []⟩)], ⟨[], [], []⟩⟩
 | _ => none
noncomputable def gy : FI := ⟨Tryz.f48.results.toList, aK Tryz.f48.body, Tryz.f48.ntmps, ah5⟩
theorem ac7 : bI Tryz.prog 48 gy := ⟨⟨Tryz.f48, Tryz.func48, by kernel_rfl, rfl, rfl, by kernel_rfl⟩, by kernel_rfl⟩
def wX (N : Nat) : List (Nat × ax) := [(45, IE N), (74, jw N), (87, lw N), (43, OB N)]
def Qh : ax := a_ [.d (.str) false] true [.d (.slice bM) false]
def abT (r : List Txt) (t15 : Int) (t16 : Int) (out3a : List Use) (x5 : Txt) (t23 : Int) (u6c0 : Txt) (u6c1 : Int) (u6c2 : Int) (t22a : List Txt) (t24 : Int) : St := ⟨[(3, va 700003), (5, vv Ty.str x5), (6, vb 6), (14, vv ai r), (15, vv aj t15), (16, vv aj t16), (22, va 700022), (23, vv aj t23), (24, vv aj t24)], [(6, .box [.v Ty.str u6c0, .v aj u6c1, .v aj u6c2]), (700003, .arr 101 bM out3a), (700022, .arr 9 Ty.str t22a)]⟩
def A_ (r : List Txt) (t15 : Int) (t16 : Int) (out3a : List Use) : St := ⟨[(3, va 700003), (14, vv ai r), (15, vv aj t15), (16, vv aj t16)], [(700003, .arr 101 bM out3a)]⟩
noncomputable def xI (N : Nat) : Env := bQ (ay aG) (aU (wX N)) aX N gy []
noncomputable def YL := (dE (ay aG) gy.res (kT (aT [.slice bM]) Qh []))
noncomputable def Qa (N : Nat) (nxS0 : St → Option (List Use)) (n : Nat) : St → Option (List Use) := fun S' => iter [] (bH gy 2) (code (xI N) (bY (bY gy.body 0 0) 0 2) 2) n S' (bg (xI N) (bY gy.body 0 0) 0 2 (KX [] (bH gy 0) nxS0 (bg (xI N) gy.body 0 0 YL)))
noncomputable def wQ (N : Nat) (nxS0 : St → Option (List Use)) (r : List Txt) (t15 : Int) (t16 : Int) (out3a : List Use) (x5 : Txt) (t23 : Int) (u6c0 : Txt) (u6c1 : Int) (u6c2 : Int) (t22a : List Txt) (n : Nat) : Int → Option (List Use) := fun t24 => Qa N nxS0 n (abT r t15 t16 out3a x5 t23 u6c0 u6c1 u6c2 t22a t24)
theorem Uz (N : Nat) (nxS0 : St → Option (List Use)) (r : List Txt) (t15 : Int) : wQ N nxS0 r t15 = iE N (fun t16 out3a => nxS0 (A_ r t15 t16 out3a)) r t15 := funext fun t16 => funext fun out3a => funext fun x5 => funext fun t23 => funext fun u6c0 => funext fun u6c1 => funext fun u6c2 => funext fun t22a => funext (bz (by kernel_rfl) fun n => by
 show _ = Tn N (fun t16 out3a => nxS0 (A_ r t15 t16 out3a)) r t15 t16 out3a x5 t23 u6c0 u6c1 u6c2 t22a (wQ N nxS0 r t15 t16 out3a x5 t23 u6c0 u6c1 u6c2 t22a n)
 kernel_rfl)
noncomputable def rX (N : Nat) (n : Nat) : St → Option (List Use) := fun S' => iter [] (bH gy 0) (code (xI N) (bY gy.body 0 0) 0) n S' (bg (xI N) gy.body 0 0 YL)
noncomputable def oW (N : Nat) (r : List Txt) (t15 : Int) (n : Nat) : Int → (List Use) → Option (List Use) := fun t16 out3a => rX N n (A_ r t15 t16 out3a)
theorem WB (N : Nat) : oW N = Oi N := funext fun r => funext fun t15 => funext (bz (by kernel_rfl) fun n => by
 show _ = xX N (iE N (oW N r t15 n) r t15) r t15 (oW N r t15 n)
 rw [show iE N (oW N r t15 n) r t15 = wQ N (rX N n) r t15 from (Uz N (rX N n) r t15).symm]
 kernel_rfl)
theorem abr (N : Nat) (s : Txt) : aV (aT [.slice bM]) (ay aG) (aU (wX N)) aX N gy Qh [⟨.str, s⟩] = F.FY N s := by
 show _ = F.WH N (F.Oi N) s
 rw [← WB N]
 kernel_rfl
def QC (N : Nat) : ax := aF [.d (.str) false] true [.d (.slice bM) false] [.slice bM] (F.FY N)
theorem abl (N : Nat) : au Tryz.prog 48 (QC N) := aJ (N := N) bf mixed (ah (l := wX N) (aN rfl (LC N) (aN rfl (xK N) (aN rfl (D5 N) (aN rfl (Tj N) trivial))))) (aC _) ac7 (by decide) fun s => abr N s
def amn : Nat → Option Ann := fun _ => none
noncomputable def Zc : FI := ⟨Tryz.f131.results.toList, aK Tryz.f131.body, Tryz.f131.ntmps, amn⟩
theorem alr : bI Tryz.prog 131 Zc := ⟨⟨Tryz.f131, Tryz.func131, by kernel_rfl, rfl, rfl, by kernel_rfl⟩, by kernel_rfl⟩
def JP (N : Nat) : List (Nat × ax) := []
def ann : ax := a_ [.d bi true, .bx aj] true [.d (.bool) false]
theorem aeX (N : Nat) (p : Part) (p1 : Int) : aV (aT [.bool, aj]) (ay aG) (aU (JP N)) aX N Zc ann [⟨bi, p⟩, ⟨aj, p1⟩] = F.am9 N p p1 := by kernel_rfl
def aaf (N : Nat) : ax := aF [.d bi true, .bx aj] true [.d (.bool) false] [.bool, aj] (F.am9 N)
theorem ajt (N : Nat) : au Tryz.prog 131 (aaf N) := aJ (N := N) bf mixed (ah (l := JP N) trivial) (aC _) alr (by decide) fun p p1 => aeX N p p1
def aqe : Nat → Option Ann
 | 0 => some ⟨⟨[(0, kp), (1, kp), (7, kp), (8, kp)], [(500001, [kp])], []⟩, [(0, ⟨[], [(500001, [kp])], []⟩)], ⟨[(4, kp)], [(500001, [kp])], []⟩⟩
 | _ => none
noncomputable def wu : FI := ⟨Tryz.f130.results.toList, aK Tryz.f130.body, Tryz.f130.ntmps, aqe⟩
theorem ara : bI Tryz.prog 130 wu := ⟨⟨Tryz.f130, Tryz.func130, by kernel_rfl, rfl, rfl, by kernel_rfl⟩, by kernel_rfl⟩
def HY (N : Nat) : List (Nat × ax) := [(131, aaf N)]
def akw : ax := a_ [.d (.slice bi) false, .cl 131 [aj]] true [.d aj false]
def aoL (s : List Part) (t7 : Int) (t8 : Int) (fpc0 : Int) : St := ⟨[(0, vv bi.slice s), (1, AV.w (V1.one (C.fn 131 [500001]))), (7, vv aj t7), (8, vv aj t8)], [(500001, .box [.v aj fpc0])]⟩
noncomputable def apB (N : Nat) : Env := bQ (ay aG) (aU (HY N)) aX N wu [500001]
noncomputable def arw := (dE (ay aG) wu.res (kT (aT [aj, aj]) akw [(500001, .bx aj)]))
noncomputable def abC (N : Nat) (n : Nat) : St → Option (Int × Int) := fun S' => iter [500001] (bH wu 0) (code (apB N) (bY wu.body 0 0) 0) n S' (bg (apB N) wu.body 0 0 arw)
noncomputable def Sj (N : Nat) (s : List Part) (t7 : Int) (n : Nat) : Int → Int → Option (Int × Int) := fun t8 fpc0 => abC N n (aoL s t7 t8 fpc0)
theorem aeE (N : Nat) : Sj N = aet N := funext fun s => funext fun t7 => funext (bz (by kernel_rfl) fun n => by
 show _ = PD N s t7 (Sj N s t7 n)
 kernel_rfl)
theorem aoN (N : Nat) (s : List Part) (p1 : Int) : aV (aT [aj, aj]) (ay aG) (aU (HY N)) aX N wu akw [⟨.slice bi, s⟩, ⟨aj, p1⟩] = F.f_0 N s p1 := by
 show _ = F.apZ N (F.aet N) s p1
 rw [← aeE N]
 kernel_rfl
def ait (N : Nat) : ax := aF [.d (.slice bi) false, .cl 131 [aj]] true [.d aj false] [aj, aj] (F.f_0 N)
theorem ak4 (N : Nat) : au Tryz.prog 130 (ait N) := aJ (N := N) bf mixed (ah (l := HY N) (aN rfl (ajt N) trivial)) (aC _) ara (by decide) fun s p1 => aoN N s p1
def ane : Nat → Option Ann := fun _ => none
noncomputable def Y1 : FI := ⟨Tryz.f85.results.toList, aK Tryz.f85.body, Tryz.f85.ntmps, ane⟩
theorem anM : bI Tryz.prog 85 Y1 := ⟨⟨Tryz.f85, Tryz.func85, by kernel_rfl, rfl, rfl, by kernel_rfl⟩, by kernel_rfl⟩
def KF (N : Nat) : List (Nat × ax) := [(13200130, ait N)]
def aom : ax := a_ [.d aA true, .d aj false] false [.d aj false]
theorem aft (N : Nat) (b : Book) (number : Int) : aV (aT [aj]) (ay aG) (aU (KF N)) aX N Y1 aom [⟨aA, b⟩, ⟨aj, number⟩] = F.Px N b number := by kernel_rfl
def zf (N : Nat) : ax := aF [.d aA true, .d aj false] false [.d aj false] [aj] (F.Px N)
theorem yf (N : Nat) : au Tryz.prog 85 (zf N) := aJ (N := N) bf mixed (ah (l := KF N) (aN rfl (ak4 N) trivial)) (aC _) anM (by decide) fun b number => aft N b number
def al8 : Nat → Option Ann
 | 0 => some ⟨⟨[(0, kp), (1, kp), (12, kp), (13, kp)], [], []⟩, [(0, ⟨[], [], []⟩)], ⟨[(4, kp)], [], []⟩⟩
 | _ => none
noncomputable def oO : FI := ⟨Tryz.f163.results.toList, aK Tryz.f163.body, Tryz.f163.ntmps, al8⟩
theorem alz : bI Tryz.prog 163 oO := ⟨⟨Tryz.f163, Tryz.func163, by kernel_rfl, rfl, rfl, by kernel_rfl⟩, by kernel_rfl⟩
def CY (N : Nat) : List (Nat × ax) := []
def X0 : ax := a_ [.d ai false, .d ai false] false [.d (.bool) false]
def ac8 (s1 : List Txt) (s2 : List Txt) (t12 : Int) (t13 : Int) : St := ⟨[(0, vv ai s1), (1, vv ai s2), (12, vv aj t12), (13, vv aj t13)], []⟩
noncomputable def aj8 (N : Nat) : Env := bQ (ay aG) (aU (CY N)) aX N oO []
noncomputable def aqf := (dE (ay aG) oO.res (kT (aT [.bool]) X0 []))
noncomputable def UY (N : Nat) (n : Nat) : St → Option Bool := fun S' => iter [] (bH oO 0) (code (aj8 N) (bY oO.body 0 0) 0) n S' (bg (aj8 N) oO.body 0 0 aqf)
noncomputable def MV (N : Nat) (s1 : List Txt) (s2 : List Txt) (t12 : Int) (n : Nat) : Int → Option Bool := fun t13 => UY N n (ac8 s1 s2 t12 t13)
theorem aaA (N : Nat) : MV N = Un N := funext fun s1 => funext fun s2 => funext fun t12 => funext (bz (by kernel_rfl) fun n => by
 show _ = EP N s1 s2 t12 (MV N s1 s2 t12 n)
 kernel_rfl)
theorem aeM (N : Nat) (s1 : List Txt) (s2 : List Txt) : aV (aT [.bool]) (ay aG) (aU (CY N)) aX N oO X0 [⟨ai, s1⟩, ⟨ai, s2⟩] = F.VF N s1 s2 := by
 show _ = F.akd N (F.Un N) s1 s2
 rw [← aaA N]
 kernel_rfl
def X4 (N : Nat) : ax := aF [.d ai false, .d ai false] false [.d (.bool) false] [.bool] (F.VF N)
theorem afd (N : Nat) : au Tryz.prog 163 (X4 N) := aJ (N := N) bf mixed (ah (l := CY N) trivial) (aC _) alz (by decide) fun s1 s2 => aeM N s1 s2
def anD : Nat → Option Ann
 | 0 => some ⟨⟨[(0, kp), (1, kp), (12, kp), (13, kp)], [], []⟩, [(0, ⟨[], [], []⟩)], ⟨[(4, kp)], [], []⟩⟩
 | _ => none
noncomputable def qh : FI := ⟨Tryz.f164.results.toList, aK Tryz.f164.body, Tryz.f164.ntmps, anD⟩
theorem ao7 : bI Tryz.prog 164 qh := ⟨⟨Tryz.f164, Tryz.func164, by kernel_rfl, rfl, rfl, by kernel_rfl⟩, by kernel_rfl⟩
def Af (N : Nat) : List (Nat × ax) := []
def WU : ax := a_ [.d (.slice bM) false, .d (.slice bM) false] false [.d (.bool) false]
def ahv (s1 : List Use) (s2 : List Use) (t12 : Int) (t13 : Int) : St := ⟨[(0, vv bM.slice s1), (1, vv bM.slice s2), (12, vv aj t12), (13, vv aj t13)], []⟩
noncomputable def aiu (N : Nat) : Env := bQ (ay aG) (aU (Af N)) aX N qh []
noncomputable def aqO := (dE (ay aG) qh.res (kT (aT [.bool]) WU []))
noncomputable def Vw (N : Nat) (n : Nat) : St → Option Bool := fun S' => iter [] (bH qh 0) (code (aiu N) (bY qh.body 0 0) 0) n S' (bg (aiu N) qh.body 0 0 aqO)
noncomputable def MW (N : Nat) (s1 : List Use) (s2 : List Use) (t12 : Int) (n : Nat) : Int → Option Bool := fun t13 => Vw N n (ahv s1 s2 t12 t13)
theorem abX (N : Nat) : MW N = VA N := funext fun s1 => funext fun s2 => funext fun t12 => funext (bz (by kernel_rfl) fun n => by
 show _ = EH N s1 s2 t12 (MW N s1 s2 t12 n)
 kernel_rfl)
theorem adB (N : Nat) (s1 : List Use) (s2 : List Use) : aV (aT [.bool]) (ay aG) (aU (Af N)) aX N qh WU [⟨.slice bM, s1⟩, ⟨.slice bM, s2⟩] = F.ahd N s1 s2 := by
 show _ = F.aiJ N (F.VA N) s1 s2
 rw [← abX N]
 kernel_rfl
def Zh (N : Nat) : ax := aF [.d (.slice bM) false, .d (.slice bM) false] false [.d (.bool) false] [.bool] (F.ahd N)
theorem ahs (N : Nat) : au Tryz.prog 164 (Zh N) := aJ (N := N) bf mixed (ah (l := Af N) trivial) (aC _) ao7 (by decide) fun s1 s2 => adB N s1 s2
def ajX : Nat → Option Ann := fun _ => none
noncomputable def Qk : FI := ⟨Tryz.f125.results.toList, aK Tryz.f125.body, Tryz.f125.ntmps, ajX⟩
theorem agI : bI Tryz.prog 125 Qk := ⟨⟨Tryz.f125, Tryz.func125, by kernel_rfl, rfl, rfl, by kernel_rfl⟩, by kernel_rfl⟩
def Ip (N : Nat) : List (Nat × ax) := [(163, X4 N), (164, Zh N)]
def aiZ : ax := a_ [.d aO true, .d aO true] false [.d (.bool) false]
theorem abV (N : Nat) (a : Want) (b : Want) : aV (aT [.bool]) (ay aG) (aU (Ip N)) aX N Qk aiZ [⟨aO, a⟩, ⟨aO, b⟩] = F.NC N a b := by kernel_rfl
def Ro (N : Nat) : ax := aF [.d aO true, .d aO true] false [.d (.bool) false] [.bool] (F.NC N)
theorem acz (N : Nat) : au Tryz.prog 125 (Ro N) := aJ (N := N) bf mixed (ah (l := Ip N) (aN rfl (afd N) (aN rfl (ahs N) trivial))) (aC _) agI (by decide) fun a b => abV N a b
def als : Nat → Option Ann := fun _ => none
noncomputable def Z5 : FI := ⟨Tryz.f127.results.toList, aK Tryz.f127.body, Tryz.f127.ntmps, als⟩
theorem aoO : bI Tryz.prog 127 Z5 := ⟨⟨Tryz.f127, Tryz.func127, by kernel_rfl, rfl, rfl, by kernel_rfl⟩, by kernel_rfl⟩
def MO (N : Nat) : List (Nat × ax) := [(118, Gi N)]
def apm : ax := a_ [.d bi true, .bx aO] true [.d (.bool) false]
theorem aix (N : Nat) (p : Part) (p1 : Want) : aV (aT [.bool, aO]) (ay aG) (aU (MO N)) aX N Z5 apm [⟨bi, p⟩, ⟨aO, p1⟩] = F.aaV N p p1 := by kernel_rfl
def Zv (N : Nat) : ax := aF [.d bi true, .bx aO] true [.d (.bool) false] [.bool, aO] (F.aaV N)
theorem aeK (N : Nat) : au Tryz.prog 127 (Zv N) := aJ (N := N) bf mixed (ah (l := MO N) (aN rfl (JX N) trivial)) (aC _) aoO (by decide) fun p p1 => aix N p p1
end
end Go.MC
set_option maxRecDepth 100000
namespace Go.MC
open Go.Proofs Go.MC.F
noncomputable section
def aqj : Nat → Option Ann
 | 0 => some ⟨⟨[(0, kp), (1, kp), (7, kp), (8, kp)], [(500001, [kp, kp, kp, kp, kp, kp])], []⟩, [(0, ⟨[], [(500001, [kp, kp, kp, kp, kp, kp])], []⟩)], ⟨[(4, kp)], [(500001, [kp, kp, kp, kp, kp, kp])], []⟩⟩
 | _ => none
noncomputable def wG : FI := ⟨Tryz.f130.results.toList, aK Tryz.f130.body, Tryz.f130.ntmps, aqj⟩
theorem aro : bI Tryz.prog 130 wG := ⟨⟨Tryz.f130, Tryz.func130, by kernel_rfl, rfl, rfl, by kernel_rfl⟩, by kernel_rfl⟩
def GH (N : Nat) : List (Nat × ax) := [(127, Zv N)]
def aiP : ax := a_ [.d (.slice bi) false, .cl 127 [aO]] true [.d aj false]
def anI (s : List Part) (t7 : Int) (t8 : Int) (fpc0 : Int) (fpc1 : Int) (fpc2 : List Txt) (fpc3 : List Use) (fpc4 : List Txt) (fpc5 : List Txt) : St := ⟨[(0, vv bi.slice s), (1, AV.w (V1.one (C.fn 127 [500001]))), (7, vv aj t7), (8, vv aj t8)], [(500001, .box [.v aj fpc0, .v aj fpc1, .v ai fpc2, .v bM.slice fpc3, .v ai fpc4, .v ai fpc5])]⟩
noncomputable def apw (N : Nat) : Env := bQ (ay aG) (aU (GH N)) aX N wG [500001]
noncomputable def ars := (dE (ay aG) wG.res (kT (aT [aj, aO]) aiP [(500001, .bx aO)]))
noncomputable def ace (N : Nat) (n : Nat) : St → Option (Int × Want) := fun S' => iter [500001] (bH wG 0) (code (apw N) (bY wG.body 0 0) 0) n S' (bg (apw N) wG.body 0 0 ars)
noncomputable def SX (N : Nat) (s : List Part) (t7 : Int) (n : Nat) : Int → Int → Int → (List Txt) → (List Use) → (List Txt) → (List Txt) → Option (Int × Want) := fun t8 fpc0 fpc1 fpc2 fpc3 fpc4 fpc5 => ace N n (anI s t7 t8 fpc0 fpc1 fpc2 fpc3 fpc4 fpc5)
theorem adM (N : Nat) : SX N = akI N := funext fun s => funext fun t7 => funext (bz (by kernel_rfl) fun n => by
 show _ = OX N s t7 (SX N s t7 n)
 kernel_rfl)
theorem amw (N : Nat) (s : List Part) (p1 : Want) : aV (aT [aj, aO]) (ay aG) (aU (GH N)) aX N wG aiP [⟨.slice bi, s⟩, ⟨aO, p1⟩] = F.f_5 N s p1 := by
 show _ = F.aqm N (F.akI N) s p1
 rw [← adM N]
 kernel_rfl
def agM (N : Nat) : ax := aF [.d (.slice bi) false, .cl 127 [aO]] true [.d aj false] [aj, aO] (F.f_5 N)
theorem akY (N : Nat) : au Tryz.prog 130 (agM N) := aJ (N := N) bf mixed (ah (l := GH N) (aN rfl (aeK N) trivial)) (aC _) aro (by decide) fun s p1 => amw N s p1
def aqD : Nat → Option Ann := fun _ => none
noncomputable def aib : FI := ⟨Tryz.f126.results.toList, aK Tryz.f126.body, Tryz.f126.ntmps, aqD⟩
theorem apS : bI Tryz.prog 126 aib := ⟨⟨Tryz.f126, Tryz.func126, by kernel_rfl, rfl, rfl, by kernel_rfl⟩, by kernel_rfl⟩
def Tu (N : Nat) : List (Nat × ax) := [(12800130, agM N)]
def aq_ : ax := a_ [.d (.slice bi) false, .cl 127 [aO]] true [.d (.bool) false]
theorem am8 (N : Nat) (s : List Part) (p1 : Want) : aV (aT [.bool, aO]) (ay aG) (aU (Tu N)) aX N aib aq_ [⟨.slice bi, s⟩, ⟨aO, p1⟩] = F.f_1 N s p1 := by kernel_rfl
def ahj (N : Nat) : ax := aF [.d (.slice bi) false, .cl 127 [aO]] true [.d (.bool) false] [.bool, aO] (F.f_1 N)
theorem ape (N : Nat) : au Tryz.prog 126 (ahj N) := aJ (N := N) bf mixed (ah (l := Tu N) (aN rfl (akY N) trivial)) (aC _) apS (by decide) fun s p1 => am8 N s p1
def aoY : Nat → Option Ann := fun _ => none
noncomputable def Xd : FI := ⟨Tryz.f128.results.toList, aK Tryz.f128.body, Tryz.f128.ntmps, aoY⟩
theorem al4 : bI Tryz.prog 128 Xd := ⟨⟨Tryz.f128, Tryz.func128, by kernel_rfl, rfl, rfl, by kernel_rfl⟩, by kernel_rfl⟩
def Lp (N : Nat) : List (Nat × ax) := [(119, IM N)]
def amr : ax := a_ [.d bi true, .bx aO] true [.d (.bool) false]
theorem agK (N : Nat) (p : Part) (p1 : Want) : aV (aT [.bool, aO]) (ay aG) (aU (Lp N)) aX N Xd amr [⟨bi, p⟩, ⟨aO, p1⟩] = F.aa5 N p p1 := by kernel_rfl
def Zp (N : Nat) : ax := aF [.d bi true, .bx aO] true [.d (.bool) false] [.bool, aO] (F.aa5 N)
theorem ag0 (N : Nat) : au Tryz.prog 128 (Zp N) := aJ (N := N) bf mixed (ah (l := Lp N) (aN rfl (JM N) trivial)) (aC _) al4 (by decide) fun p p1 => agK N p p1
def apK : Nat → Option Ann
 | 0 => some ⟨⟨[(0, kp), (1, kp), (7, kp), (8, kp)], [(500001, [kp, kp, kp, kp, kp, kp])], []⟩, [(0, ⟨[], [(500001, [kp, kp, kp, kp, kp, kp])], []⟩)], ⟨[(4, kp)], [(500001, [kp, kp, kp, kp, kp, kp])], []⟩⟩
 | _ => none
noncomputable def vY : FI := ⟨Tryz.f130.results.toList, aK Tryz.f130.body, Tryz.f130.ntmps, apK⟩
theorem aq9 : bI Tryz.prog 130 vY := ⟨⟨Tryz.f130, Tryz.func130, by kernel_rfl, rfl, rfl, by kernel_rfl⟩, by kernel_rfl⟩
def Gx (N : Nat) : List (Nat × ax) := [(128, Zp N)]
def adt : ax := a_ [.d (.slice bi) false, .cl 128 [aO]] true [.d aj false]
def apo (s : List Part) (t7 : Int) (t8 : Int) (fpc0 : Int) (fpc1 : Int) (fpc2 : List Txt) (fpc3 : List Use) (fpc4 : List Txt) (fpc5 : List Txt) : St := ⟨[(0, vv bi.slice s), (1, AV.w (V1.one (C.fn 128 [500001]))), (7, vv aj t7), (8, vv aj t8)], [(500001, .box [.v aj fpc0, .v aj fpc1, .v ai fpc2, .v bM.slice fpc3, .v ai fpc4, .v ai fpc5])]⟩
noncomputable def apx (N : Nat) : Env := bQ (ay aG) (aU (Gx N)) aX N vY [500001]
noncomputable def arG := (dE (ay aG) vY.res (kT (aT [aj, aO]) adt [(500001, .bx aO)]))
noncomputable def aaH (N : Nat) (n : Nat) : St → Option (Int × Want) := fun S' => iter [500001] (bH vY 0) (code (apx N) (bY vY.body 0 0) 0) n S' (bg (apx N) vY.body 0 0 arG)
noncomputable def SL (N : Nat) (s : List Part) (t7 : Int) (n : Nat) : Int → Int → Int → (List Txt) → (List Use) → (List Txt) → (List Txt) → Option (Int × Want) := fun t8 fpc0 fpc1 fpc2 fpc3 fpc4 fpc5 => aaH N n (apo s t7 t8 fpc0 fpc1 fpc2 fpc3 fpc4 fpc5)
theorem afX (N : Nat) : SL N = ads N := funext fun s => funext fun t7 => funext (bz (by kernel_rfl) fun n => by
 show _ = NJ N s t7 (SL N s t7 n)
 kernel_rfl)
theorem aoi (N : Nat) (s : List Part) (p1 : Want) : aV (aT [aj, aO]) (ay aG) (aU (Gx N)) aX N vY adt [⟨.slice bi, s⟩, ⟨aO, p1⟩] = F.f_6 N s p1 := by
 show _ = F.aqS N (F.ads N) s p1
 rw [← afX N]
 kernel_rfl
def ajw (N : Nat) : ax := aF [.d (.slice bi) false, .cl 128 [aO]] true [.d aj false] [aj, aO] (F.f_6 N)
theorem alZ (N : Nat) : au Tryz.prog 130 (ajw N) := aJ (N := N) bf mixed (ah (l := Gx N) (aN rfl (ag0 N) trivial)) (aC _) aq9 (by decide) fun s p1 => aoi N s p1
def aqH : Nat → Option Ann := fun _ => none
noncomputable def acX : FI := ⟨Tryz.f126.results.toList, aK Tryz.f126.body, Tryz.f126.ntmps, aqH⟩
theorem ap6 : bI Tryz.prog 126 acX := ⟨⟨Tryz.f126, Tryz.func126, by kernel_rfl, rfl, rfl, by kernel_rfl⟩, by kernel_rfl⟩
def Rj (N : Nat) : List (Nat × ax) := [(12900130, ajw N)]
def arh : ax := a_ [.d (.slice bi) false, .cl 128 [aO]] true [.d (.bool) false]
theorem alp (N : Nat) (s : List Part) (p1 : Want) : aV (aT [.bool, aO]) (ay aG) (aU (Rj N)) aX N acX arh [⟨.slice bi, s⟩, ⟨aO, p1⟩] = F.f_2 N s p1 := by kernel_rfl
def aeR (N : Nat) : ax := aF [.d (.slice bi) false, .cl 128 [aO]] true [.d (.bool) false] [.bool, aO] (F.f_2 N)
theorem aob (N : Nat) : au Tryz.prog 126 (aeR N) := aJ (N := N) bf mixed (ah (l := Rj N) (aN rfl (alZ N) trivial)) (aC _) ap6 (by decide) fun s p1 => alp N s p1
def ajS : Nat → Option Ann := fun _ => none
noncomputable def SC : FI := ⟨Tryz.f86.results.toList, aK Tryz.f86.body, Tryz.f86.ntmps, ajS⟩
theorem aiE : bI Tryz.prog 86 SC := ⟨⟨Tryz.f86, Tryz.func86, by kernel_rfl, rfl, rfl, by kernel_rfl⟩, by kernel_rfl⟩
def Iq (N : Nat) : List (Nat × ax) := [(77, D9 N)]
def ahm : ax := a_ [.d ai false, .d ai false] false [.own ai false [(9, none)]]
theorem aaI (N : Nat) (a : List Txt) (b : List Txt) : aV (aT [ai]) (ay aG) (aU (Iq N)) anX N SC ahm [⟨ai, a⟩, ⟨ai, b⟩] = F.xH N a b := by kernel_rfl
def GR (N : Nat) : ax := aF [.d ai false, .d ai false] false [.own ai false [(9, none)]] [ai] (F.xH N)
theorem Ll (N : Nat) : au Tryz.prog 86 (GR N) := aJ (N := N) bf mixed (ah (l := Iq N) (aN rfl (GL N) trivial)) Z8 aiE (by decide) fun a b => aaI N a b
def amz : Nat → Option Ann
 | 1 => some ⟨⟨[(2, kp), (3, kp), (67, kp), (68, kp), (69, kp)], [(2, [kp, kp, kp, kp, kp]), (3, [kp, kp, kp, kp, kp, kp])], []⟩, [(1, ⟨[(2, kp), (3, kp)], [(2, [kp, kp, kp, kp, kp]), (3, [kp, kp, kp, kp, kp, kp])], []⟩)], ⟨[(4, kp)], [], []⟩⟩
 | 3 => some ⟨⟨[(2, kp), (3, kp), (108, kp), (109, kp), (110, kp)], [(2, [kp, kp, kp, kp, kp]), (3, [kp, kp, kp, kp, kp, kp])], []⟩, [(3, ⟨[], [], []⟩)], ⟨[(4, kp)], [], []⟩⟩
 | _ => none
noncomputable def jE : FI := ⟨Tryz.f84.results.toList, aK Tryz.f84.body, Tryz.f84.ntmps, amz⟩
theorem anA : bI Tryz.prog 84 jE := ⟨⟨Tryz.f84, Tryz.func84, by kernel_rfl, rfl, rfl, by kernel_rfl⟩, by kernel_rfl⟩
def zJ (N : Nat) : List (Nat × ax) := [(79, oK N), (123, OY N), (124, NR N), (85, zf N), (125, Ro N), (12800126, ahj N), (12900126, aeR N), (116, OL N), (51, oD N), (129, Fg N), (86, GR N)]
def XP : ax := a_ [.d aA true, .d aO true] false [.d aj false]
def ajq (b : Book) (r_6 : Bool × Want) (t109 : Int) (t110 : Int) : St := ⟨[(2, vb 2), (3, vb 3), (108, vv bM.slice r_6.2.2.2.2.1), (109, vv aj t109), (110, vv aj t110)], [(2, .box [.v bT.slice b.1, .v aZ.slice b.2.1, .v ai b.2.2.1, .v bi.slice b.2.2.2.1, .v aj b.2.2.2.2]), (3, .box [.v aj r_6.2.1, .v aj r_6.2.2.1, .v ai r_6.2.2.2.1, .v bM.slice r_6.2.2.2.2.1, .v ai r_6.2.2.2.2.2.1, .v ai r_6.2.2.2.2.2.2])]⟩
def aeb (b : Book) (r_6 : Bool × Want) (t68 : Int) (t69 : Int) : St := ⟨[(2, vb 2), (3, vb 3), (67, vv bM.slice r_6.2.2.2.2.1), (68, vv aj t68), (69, vv aj t69)], [(2, .box [.v bT.slice b.1, .v aZ.slice b.2.1, .v ai b.2.2.1, .v bi.slice b.2.2.2.1, .v aj b.2.2.2.2]), (3, .box [.v aj r_6.2.1, .v aj r_6.2.2.1, .v ai r_6.2.2.2.1, .v bM.slice r_6.2.2.2.2.1, .v ai r_6.2.2.2.2.2.1, .v ai r_6.2.2.2.2.2.2])]⟩
noncomputable def PR (N : Nat) : Env := bQ (ay aG) (aU (zJ N)) aX N jE []
noncomputable def aeN := (dE (ay aG) jE.res (kT (aT [aj]) XP []))
noncomputable def VC (N : Nat) (n : Nat) : St → Option Int := fun S' => iter [] (bH jE 3) (code (PR N) (bY jE.body 0 3) 3) n S' (bg (PR N) jE.body 0 3 aeN)
noncomputable def Ba (N : Nat) (b : Book) (r_6 : Bool × Want) (t109 : Int) (n : Nat) : Int → Option Int := fun t110 => VC N n (ajq b r_6 t109 t110)
theorem abj (N : Nat) : Ba N = zD N := funext fun b => funext fun r_6 => funext fun t109 => funext (bz (by kernel_rfl) fun n => by
 show _ = Em N b r_6 t109 (Ba N b r_6 t109 n)
 kernel_rfl)
noncomputable def VN (N : Nat) (n : Nat) : St → Option Int := fun S' => iter [] (bH jE 1) (code (PR N) (bY jE.body 0 1) 1) n S' (bg (PR N) jE.body 0 1 aeN)
noncomputable def La (N : Nat) (b : Book) (r_6 : Bool × Want) (t68 : Int) (n : Nat) : Int → Option Int := fun t69 => VN N n (aeb b r_6 t68 t69)
theorem aas (N : Nat) : La N = FT N := funext fun b => funext fun r_6 => funext fun t68 => funext (bz (by kernel_rfl) fun n => by
 show _ = yN N (zD N) b r_6 t68 (La N b r_6 t68 n)
 rw [show zD N = Ba N from (abj N).symm]
 kernel_rfl)
theorem ail (N : Nat) (b : Book) (w : Want) : aV (aT [aj]) (ay aG) (aU (zJ N)) aX N jE XP [⟨aA, b⟩, ⟨aO, w⟩] = F.ada N b w := by
 show _ = F.ahU N (F.FT N) b w
 rw [← aas N]
 kernel_rfl
def YX (N : Nat) : ax := aF [.d aA true, .d aO true] false [.d aj false] [aj] (F.ada N)
theorem ah1 (N : Nat) : au Tryz.prog 84 (YX N) := aJ (N := N) bf mixed (ah (l := zJ N) (aN rfl (nG N) (aN rfl (QK N) (aN rfl (Rf N) (aN rfl (yf N) (aN rfl (acz N) (aN rfl (ape N) (aN rfl (aob N) (aN rfl (Q9 N) (aN rfl (nZ N) (aN rfl (Gg N) (aN rfl (Ll N) trivial)))))))))))) (aC _) anA (by decide) fun b w => ail N b w
def amW : Nat → Option Ann
 | 0 => some ⟨⟨[(3, kp), (4, kp), (7, kp), (47, kp), (48, kp), (49, kp)], [(3, [kp, kp, kp, kp, kp, kp]), (4, [kp, kp, kp, kp, kp]), (7, [.own 1000700 44 bT, Dir.dow 1000701 46 [9] aZ, .own 1000702 9 Ty.str, Dir.dow 1000703 91 [9, 101, 9, 9] bi, kp])], []⟩, [(0, ⟨[(4, kp), (7, kp)], [(4, [kp, kp, kp, kp, kp]), (7, [.own 1000700 44 bT, Dir.dow 1000701 46 [9] aZ, .own 1000702 9 Ty.str, Dir.dow 1000703 91 [9, 101, 9, 9] bi, kp])], []⟩)], ⟨[], [], []⟩⟩
 | _ => none
noncomputable def pM : FI := ⟨Tryz.f47.results.toList, aK Tryz.f47.body, Tryz.f47.ntmps, amW⟩
theorem amm : bI Tryz.prog 47 pM := ⟨⟨Tryz.f47, Tryz.func47, by kernel_rfl, rfl, rfl, by kernel_rfl⟩, by kernel_rfl⟩
def CJ (N : Nat) : List (Nat × ax) := [(84, YX N), (39, xC N), (85, zf N), (78, O8 N), (51, oD N), (86, GR N)]
def Xz : ax := a_ [.d aA true, .d aO true] false [.own aA true [(44, none), (46, (some [9])), (9, none), (91, (some [9, 101, 9, 9]))], .d aj false]
def adg (w : Want) (r_1 : Book) (t48 : Int) (t4c4 : Int) (out7c3a : List Part) (t49 : Int) (out7c1a : List aP) : St := ⟨[(3, vb 3), (4, vb 4), (7, vb 7), (47, vv bM.slice w.2.2.2.1), (48, vv aj t48), (49, vv aj t49)], [(3, .box [.v aj w.1, .v aj w.2.1, .v ai w.2.2.1, .v bM.slice w.2.2.2.1, .v ai w.2.2.2.2.1, .v ai w.2.2.2.2.2]), (4, .box [.emp, .emp, .emp, .emp, .v aj t4c4]), (7, .box [.arr 1000700, .arr 1000701, .arr 1000702, .arr 1000703, .v aj w.1]), (1000700, .arr 44 bT r_1.1), (1000701, .arr 46 aZ out7c1a (Dp.yes [9])), (1000702, .arr 9 Ty.str r_1.2.2.1), (1000703, .arr 91 bi out7c3a (Dp.yes [9, 101, 9, 9]))]⟩
noncomputable def ag2 (N : Nat) : Env := bQ (ay aG) (aU (CJ N)) aX N pM []
noncomputable def ap8 := (dE (ay aG) pM.res (kT (aT [aA, aj]) Xz []))
noncomputable def UF (N : Nat) (n : Nat) : St → Option (Book × Int) := fun S' => iter [] (bH pM 0) (code (ag2 N) (bY pM.body 0 0) 0) n S' (bg (ag2 N) pM.body 0 0 ap8)
noncomputable def J5 (N : Nat) (w : Want) (r_1 : Book) (t48 : Int) (t4c4 : Int) (out7c3a : List Part) (n : Nat) : Int → (List aP) → Option (Book × Int) := fun t49 out7c1a => UF N n (adg w r_1 t48 t4c4 out7c3a t49 out7c1a)
theorem aar (N : Nat) : J5 N = IK N := funext fun w => funext fun r_1 => funext fun t48 => funext fun t4c4 => funext fun out7c3a => funext (bz (by kernel_rfl) fun n => by
 show _ = xn N w r_1 t48 t4c4 out7c3a (J5 N w r_1 t48 t4c4 out7c3a n)
 kernel_rfl)
theorem aeQ (N : Nat) (b : Book) (w : Want) : aV (aT [aA, aj]) (ay aG) (aU (CJ N)) aX N pM Xz [⟨aA, b⟩, ⟨aO, w⟩] = F.Ua N b w := by
 show _ = F.afU N (F.IK N) b w
 rw [← aar N]
 kernel_rfl
def XU (N : Nat) : ax := aF [.d aA true, .d aO true] false [.own aA true [(44, none), (46, (some [9])), (9, none), (91, (some [9, 101, 9, 9]))], .d aj false] [aA, aj] (F.Ua N)
theorem ajg (N : Nat) : au Tryz.prog 47 (XU N) := aJ (N := N) bf mixed (ah (l := CJ N) (aN rfl (ah1 N) (aN rfl (yg N) (aN rfl (yf N) (aN rfl (SI N) (aN rfl (nZ N) (aN rfl (Ll N) trivial))))))) (aC _) amm (by decide) fun b w => aeQ N b w
def alP : Nat → Option Ann := fun _ => none
noncomputable def aag : FI := ⟨Tryz.f46.results.toList, aK Tryz.f46.body, Tryz.f46.ntmps, alP⟩
theorem akZ : bI Tryz.prog 46 aag := ⟨⟨Tryz.f46, Tryz.func46, by kernel_rfl, rfl, rfl, by kernel_rfl⟩, by kernel_rfl⟩
def KD (N : Nat) : List (Nat × ax) := [(52, iI N)]
def alM : ax := a_ [.bx aA, .d aA true, .d aj false] true [.d (.str) false]
theorem agd (N : Nat) (s : Book) (b : Book) (code : Int) : aV (aT [.str, aA]) (ay aG) (aU (KD N)) aX N aag alM [⟨aA, s⟩, ⟨aA, b⟩, ⟨aj, code⟩] = F.zS N s b code := by kernel_rfl
def WV (N : Nat) : ax := aF [.bx aA, .d aA true, .d aj false] true [.d (.str) false] [.str, aA] (F.zS N)
theorem afm (N : Nat) : au Tryz.prog 46 (WV N) := aJ (N := N) bf mixed (ah (l := KD N) (aN rfl (nI N) trivial)) (aC _) akZ (by decide) fun s b code => agd N s b code
def apd : Nat → Option Ann := fun _ => none
noncomputable def Xu : FI := ⟨Tryz.f49.results.toList, aK Tryz.f49.body, Tryz.f49.ntmps, apd⟩
theorem aph : bI Tryz.prog 49 Xu := ⟨⟨Tryz.f49, Tryz.func49, by kernel_rfl, rfl, rfl, by kernel_rfl⟩, by kernel_rfl⟩
def Lu (N : Nat) : List (Nat × ax) := [(79, oK N), (39, xC N), (85, zf N)]
def amB : ax := a_ [.d aA true, .d aj false] false [.own aA true [(44, none), (46, (some [9])), (9, none), (91, (some [9, 101, 9, 9]))], .d aj false]
theorem ajL (N : Nat) (b : Book) (number : Int) : aV (aT [aA, aj]) (ay aG) (aU (Lu N)) aX N Xu amB [⟨aA, b⟩, ⟨aj, number⟩] = F.adC N b number := by kernel_rfl
def Xn (N : Nat) : ax := aF [.d aA true, .d aj false] false [.own aA true [(44, none), (46, (some [9])), (9, none), (91, (some [9, 101, 9, 9]))], .d aj false] [aA, aj] (F.adC N)
theorem akc (N : Nat) : au Tryz.prog 49 (Xn N) := aJ (N := N) bf mixed (ah (l := Lu N) (aN rfl (nG N) (aN rfl (yg N) (aN rfl (yf N) trivial)))) (aC _) aph (by decide) fun b number => ajL N b number
def alW : Nat → Option Ann
 | 0 => some ⟨⟨[(2, kp), (3, kp), (4, kp), (8, kp), (10, kp), (11, kp), (12, kp), (40, kp), (41, kp), (42, kp)], [(4, [kp, kp, kp, kp, kp]), (8, [kp, kp, kp, kp, kp]), (10, [.own 1001000 44 bT, Dir.dow 1001001 46 [9] aZ, .own 1001002 9 Ty.str, Dir.dow 1001003 91 [9, 101, 9, 9] bi, kp]), (12, [kp, kp, kp, kp, kp, kp])], []⟩, [(0, ⟨[(2, kp), (3, kp), (4, kp), (8, kp), (10, kp), (11, kp), (12, kp)], [(4, [kp, kp, kp, kp, kp]), (8, [.own 1000800 44 bT, Dir.dow 1000801 46 [9] aZ, .own 1000802 9 Ty.str, Dir.dow 1000803 91 [9, 101, 9, 9] bi, kp]), (10, [.own 1001000 44 bT, Dir.dow 1001001 46 [9] aZ, .own 1001002 9 Ty.str, Dir.dow 1001003 91 [9, 101, 9, 9] bi, kp]), (12, [kp, kp, kp, kp, kp, kp])], []⟩)], ⟨[(8, kp), (9, kp)], [(8, [.own 1000800 44 bT, Dir.dow 1000801 46 [9] aZ, .own 1000802 9 Ty.str, Dir.dow 1000803 91 [9, 101, 9, 9] bi, kp])], []⟩⟩
 | 2 => some ⟨⟨[(2, kp), (3, kp), (8, kp), (10, kp), (12, kp), (73, kp), (74, kp), (75, kp)], [(8, [.own 1000800 44 bT, Dir.dow 1000801 46 [9] aZ, .own 1000802 9 Ty.str, Dir.dow 1000803 91 [9, 101, 9, 9] bi, kp]), (10, [.own 1001000 44 bT, Dir.dow 1001001 46 [9] aZ, .own 1001002 9 Ty.str, Dir.dow 1001003 91 [9, 101, 9, 9] bi, kp]), (12, [kp, kp, kp, kp, kp, kp])], []⟩, [(2, ⟨[(8, kp), (10, kp)], [(8, [.own 1000800 44 bT, Dir.dow 1000801 46 [9] aZ, .own 1000802 9 Ty.str, Dir.dow 1000803 91 [9, 101, 9, 9] bi, kp]), (10, [.own 1001000 44 bT, Dir.dow 1001001 46 [9] aZ, .own 1001002 9 Ty.str, Dir.dow 1001003 91 [9, 101, 9, 9] bi, kp])], []⟩)], ⟨[], [], []⟩⟩
 | _ => none
noncomputable def jI : FI := ⟨Tryz.f50.results.toList, aK Tryz.f50.body, Tryz.f50.ntmps, alW⟩
theorem alo : bI Tryz.prog 50 jI := ⟨⟨Tryz.f50, Tryz.func50, by kernel_rfl, rfl, rfl, by kernel_rfl⟩, by kernel_rfl⟩
def Aa (N : Nat) : List (Nat × ax) := [(79, oK N), (39, xC N), (85, zf N), (51, oD N)]
def XK : ax := a_ [.d aA true, .d aj false, .d aj false, .d (.bool) false] false [.own aA true [(44, none), (46, (some [9])), (9, none), (91, (some [9, 101, 9, 9]))], .d aj false]
def agN (moved : Int) (done : Bool) (r_1 : Book) (t8c4 : Int) (w12c0 : Int) (w12c1 : Int) (w12c2 : List Txt) (w12c3 : List Use) (w12c4 : List Txt) (w12c5 : List Txt) (t74 : Int) (t8c0a : List Foe) (t8c1a : List aP) (t8c2a : List Txt) (t8c3a : List Part) (out10c3a_1 : List Part) (t75 : Int) (out10c1a_1 : List aP) : St := ⟨[(2, vv aj moved), (3, vv Ty.bool done), (8, vb 8), (10, vb 10), (12, vb 12), (73, vv bM.slice w12c3), (74, vv aj t74), (75, vv aj t75)], [(8, .box [.arr 1000800, .arr 1000801, .arr 1000802, .arr 1000803, .v aj t8c4]), (10, .box [.arr 1001000, .arr 1001001, .arr 1001002, .arr 1001003, .v aj r_1.2.2.2.2]), (12, .box [.v aj w12c0, .v aj w12c1, .v ai w12c2, .v bM.slice w12c3, .v ai w12c4, .v ai w12c5]), (1000800, .arr 44 bT t8c0a), (1000801, .arr 46 aZ t8c1a (Dp.yes [9])), (1000802, .arr 9 Ty.str t8c2a), (1000803, .arr 91 bi t8c3a (Dp.yes [9, 101, 9, 9])), (1001000, .arr 44 bT r_1.1), (1001001, .arr 46 aZ out10c1a_1 (Dp.yes [9])), (1001002, .arr 9 Ty.str r_1.2.2.1), (1001003, .arr 91 bi out10c3a_1 (Dp.yes [9, 101, 9, 9]))]⟩
def afn (b : Book) (moved : Int) (done : Bool) (r_1 : Book) (r_2 : Int) (t40 : List Use) (t41 : Int) (t8c4 : Int) (w12c0 : Int) (w12c1 : Int) (w12c2 : List Txt) (w12c3 : List Use) (w12c4 : List Txt) (w12c5 : List Txt) (t42 : Int) : St := ⟨[(2, vv aj moved), (3, vv Ty.bool done), (4, vb 4), (8, vb 8), (10, vb 10), (11, vv aj r_2), (12, vb 12), (40, vv bM.slice t40), (41, vv aj t41), (42, vv aj t42)], [(4, .box [.v bT.slice b.1, .v aZ.slice b.2.1, .v ai b.2.2.1, .v bi.slice b.2.2.2.1, .v aj b.2.2.2.2]), (8, .box [.emp, .emp, .emp, .emp, .v aj t8c4]), (10, .box [.arr 1001000, .arr 1001001, .arr 1001002, .arr 1001003, .v aj r_1.2.2.2.2]), (12, .box [.v aj w12c0, .v aj w12c1, .v ai w12c2, .v bM.slice w12c3, .v ai w12c4, .v ai w12c5]), (1001000, .arr 44 bT r_1.1), (1001001, .arr 46 aZ r_1.2.1 (Dp.yes [9])), (1001002, .arr 9 Ty.str r_1.2.2.1), (1001003, .arr 91 bi r_1.2.2.2.1 (Dp.yes [9, 101, 9, 9]))]⟩
noncomputable def Pn (N : Nat) : Env := bQ (ay aG) (aU (Aa N)) anX N jI []
noncomputable def ad9 := (dE (ay aG) jI.res (kT (aT [aA, aj]) XK []))
noncomputable def VI (N : Nat) (n : Nat) : St → Option (Book × Int) := fun S' => iter [] (bH jI 2) (code (Pn N) (bY jI.body 0 2) 2) n S' (bg (Pn N) jI.body 0 2 ad9)
noncomputable def AC (N : Nat) (moved : Int) (done : Bool) (r_1 : Book) (t8c4 : Int) (w12c0 : Int) (w12c1 : Int) (w12c2 : List Txt) (w12c3 : List Use) (w12c4 : List Txt) (w12c5 : List Txt) (t74 : Int) (t8c0a : List Foe) (t8c1a : List aP) (t8c2a : List Txt) (t8c3a : List Part) (out10c3a_1 : List Part) (n : Nat) : Int → (List aP) → Option (Book × Int) := fun t75 out10c1a_1 => VI N n (agN moved done r_1 t8c4 w12c0 w12c1 w12c2 w12c3 w12c4 w12c5 t74 t8c0a t8c1a t8c2a t8c3a out10c3a_1 t75 out10c1a_1)
theorem aau (N : Nat) : AC N = N8 N := funext fun moved => funext fun done => funext fun r_1 => funext fun t8c4 => funext fun w12c0 => funext fun w12c1 => funext fun w12c2 => funext fun w12c3 => funext fun w12c4 => funext fun w12c5 => funext fun t74 => funext fun t8c0a => funext fun t8c1a => funext fun t8c2a => funext fun t8c3a => funext fun out10c3a_1 => funext (bz (by kernel_rfl) fun n => by
 show _ = yR N moved done r_1 t8c4 w12c0 w12c1 w12c2 w12c3 w12c4 w12c5 t74 t8c0a t8c1a t8c2a t8c3a out10c3a_1 (AC N moved done r_1 t8c4 w12c0 w12c1 w12c2 w12c3 w12c4 w12c5 t74 t8c0a t8c1a t8c2a t8c3a out10c3a_1 n)
 kernel_rfl)
noncomputable def Wi (N : Nat) (n : Nat) : St → Option (Book × Int) := fun S' => iter [] (bH jI 0) (code (Pn N) (bY jI.body 0 0) 0) n S' (bg (Pn N) jI.body 0 0 ad9)
noncomputable def Nc (N : Nat) (b : Book) (moved : Int) (done : Bool) (r_1 : Book) (r_2 : Int) (t40 : List Use) (t41 : Int) (t8c4 : Int) (w12c0 : Int) (w12c1 : Int) (w12c2 : List Txt) (w12c3 : List Use) (w12c4 : List Txt) (w12c5 : List Txt) (n : Nat) : Int → Option (Book × Int) := fun t42 => Wi N n (afn b moved done r_1 r_2 t40 t41 t8c4 w12c0 w12c1 w12c2 w12c3 w12c4 w12c5 t42)
theorem abB (N : Nat) : Nc N = Uk N := funext fun b => funext fun moved => funext fun done => funext fun r_1 => funext fun r_2 => funext fun t40 => funext fun t41 => funext fun t8c4 => funext fun w12c0 => funext fun w12c1 => funext fun w12c2 => funext fun w12c3 => funext fun w12c4 => funext fun w12c5 => funext (bz (by kernel_rfl) fun n => by
 show _ = ET N (N8 N) b moved done r_1 r_2 t40 t41 t8c4 w12c0 w12c1 w12c2 w12c3 w12c4 w12c5 (Nc N b moved done r_1 r_2 t40 t41 t8c4 w12c0 w12c1 w12c2 w12c3 w12c4 w12c5 n)
 rw [show N8 N = AC N from (aau N).symm]
 kernel_rfl)
theorem ahr (N : Nat) (b : Book) (number : Int) (moved : Int) (done : Bool) : aV (aT [aA, aj]) (ay aG) (aU (Aa N)) anX N jI XK [⟨aA, b⟩, ⟨aj, number⟩, ⟨aj, moved⟩, ⟨.bool, done⟩] = F.abZ N b number moved done := by
 show _ = F.acU N (F.Uk N) b number moved done
 rw [← abB N]
 kernel_rfl
def XA (N : Nat) : ax := aF [.d aA true, .d aj false, .d aj false, .d (.bool) false] false [.own aA true [(44, none), (46, (some [9])), (9, none), (91, (some [9, 101, 9, 9]))], .d aj false] [aA, aj] (F.abZ N)
theorem afK (N : Nat) : au Tryz.prog 50 (XA N) := aJ (N := N) bf mixed (ah (l := Aa N) (aN rfl (nG N) (aN rfl (yg N) (aN rfl (yf N) (aN rfl (nZ N) trivial))))) Z8 alo (by decide) fun b number moved done => ahr N b number moved done
def agD : Nat → Option Ann := fun _ => none
noncomputable def RI : FI := ⟨Tryz.f53.results.toList, aK Tryz.f53.body, Tryz.f53.ntmps, agD⟩
theorem agV : bI Tryz.prog 53 RI := ⟨⟨Tryz.f53, Tryz.func53, by kernel_rfl, rfl, rfl, by kernel_rfl⟩, by kernel_rfl⟩
def I_ (N : Nat) : List (Nat × ax) := [(92, kw N)]
def agH : ax := a_ [.d ai false] false [.d (.str) false]
theorem abx (N : Nat) (l : List Txt) : aV (aT [.str]) (ay aG) (aU (I_ N)) aX N RI agH [⟨ai, l⟩] = F.DF N l := by kernel_rfl
def P6 (N : Nat) : ax := aF [.d ai false] false [.d (.str) false] [.str] (F.DF N)
theorem acj (N : Nat) : au Tryz.prog 53 (P6 N) := aJ (N := N) bf mixed (ah (l := I_ N) (aN rfl (BC N) trivial)) (aC _) agV (by decide) fun l => abx N l
def aoP : Nat → Option Ann
 | 0 => some ⟨⟨[(1, kp), (5, .own 700005 3 aj), (13, kp), (14, kp), (15, kp)], [], []⟩, [(0, ⟨[(5, .own 700005 3 aj)], [], []⟩)], ⟨[], [], []⟩⟩
 | _ => none
noncomputable def o6 : FI := ⟨Tryz.f54.results.toList, aK Tryz.f54.body, Tryz.f54.ntmps, aoP⟩
theorem aoZ : bI Tryz.prog 54 o6 := ⟨⟨Tryz.f54, Tryz.func54, by kernel_rfl, rfl, rfl, by kernel_rfl⟩, by kernel_rfl⟩
def BN (N : Nat) : List (Nat × ax) := [(79, oK N), (93, uJ N)]
def Yx : ax := a_ [.d aA true, .d (.str) false] false [.own (.slice aj) false [(3, none)]]
def afY (b : Book) (valve : Txt) (t14 : Int) (t15 : Int) (out5a : List Int) : St := ⟨[(1, vv Ty.str valve), (5, va 700005), (13, vv bi.slice b.2.2.2.1), (14, vv aj t14), (15, vv aj t15)], [(700005, .arr 3 aj out5a)]⟩
noncomputable def adf (N : Nat) : Env := bQ (ay aG) (aU (BN N)) aX N o6 []
noncomputable def ap3 := (dE (ay aG) o6.res (kT (aT [.slice aj]) Yx []))
noncomputable def WS (N : Nat) (n : Nat) : St → Option (List Int) := fun S' => iter [] (bH o6 0) (code (adf N) (bY o6.body 0 0) 0) n S' (bg (adf N) o6.body 0 0 ap3)
noncomputable def KZ (N : Nat) (b : Book) (valve : Txt) (t14 : Int) (n : Nat) : Int → (List Int) → Option (List Int) := fun t15 out5a => WS N n (afY b valve t14 t15 out5a)
theorem aak (N : Nat) : KZ N = Um N := funext fun b => funext fun valve => funext fun t14 => funext (bz (by kernel_rfl) fun n => by
 show _ = Ew N b valve t14 (KZ N b valve t14 n)
 kernel_rfl)
theorem agX (N : Nat) (b : Book) (valve : Txt) : aV (aT [.slice aj]) (ay aG) (aU (BN N)) aX N o6 Yx [⟨aA, b⟩, ⟨.str, valve⟩] = F.ajK N b valve := by
 show _ = F.ahx N (F.Um N) b valve
 rw [← aak N]
 kernel_rfl
def YK (N : Nat) : ax := aF [.d aA true, .d (.str) false] false [.own (.slice aj) false [(3, none)]] [.slice aj] (F.ajK N)
theorem akL (N : Nat) : au Tryz.prog 54 (YK N) := aJ (N := N) bf mixed (ah (l := BN N) (aN rfl (nG N) (aN rfl (tC N) trivial))) (aC _) aoZ (by decide) fun b valve => agX N b valve
def akS : Nat → Option Ann
 | 0 => some ⟨⟨[(1, kp), (11, kp), (12, kp), (13, kp)], [], []⟩, [(0, ⟨[], [], []⟩)], ⟨[(4, kp)], [], []⟩⟩
 | _ => none
noncomputable def qJ : FI := ⟨Tryz.f55.results.toList, aK Tryz.f55.body, Tryz.f55.ntmps, akS⟩
theorem aon : bI Tryz.prog 55 qJ := ⟨⟨Tryz.f55, Tryz.func55, by kernel_rfl, rfl, rfl, by kernel_rfl⟩, by kernel_rfl⟩
def BO (N : Nat) : List (Nat × ax) := [(79, oK N), (93, uJ N)]
def Y4 : ax := a_ [.d aA true, .d (.str) false] false [.d aj false]
def ahT (b : Book) (valve : Txt) (t12 : Int) (t13 : Int) : St := ⟨[(1, vv Ty.str valve), (11, vv bi.slice b.2.2.2.1), (12, vv aj t12), (13, vv aj t13)], []⟩
noncomputable def ajW (N : Nat) : Env := bQ (ay aG) (aU (BO N)) aX N qJ []
noncomputable def apV := (dE (ay aG) qJ.res (kT (aT [aj]) Y4 []))
noncomputable def VB (N : Nat) (n : Nat) : St → Option Int := fun S' => iter [] (bH qJ 0) (code (ajW N) (bY qJ.body 0 0) 0) n S' (bg (ajW N) qJ.body 0 0 apV)
noncomputable def L8 (N : Nat) (b : Book) (valve : Txt) (t12 : Int) (n : Nat) : Int → Option Int := fun t13 => VB N n (ahT b valve t12 t13)
theorem aaP (N : Nat) : L8 N = VO N := funext fun b => funext fun valve => funext fun t12 => funext (bz (by kernel_rfl) fun n => by
 show _ = EZ N b valve t12 (L8 N b valve t12 n)
 kernel_rfl)
theorem adx (N : Nat) (b : Book) (valve : Txt) : aV (aT [aj]) (ay aG) (aU (BO N)) aX N qJ Y4 [⟨aA, b⟩, ⟨.str, valve⟩] = F.agO N b valve := by
 show _ = F.ag3 N (F.VO N) b valve
 rw [← aaP N]
 kernel_rfl
def Zd (N : Nat) : ax := aF [.d aA true, .d (.str) false] false [.d aj false] [aj] (F.agO N)
theorem afE (N : Nat) : au Tryz.prog 55 (Zd N) := aJ (N := N) bf mixed (ah (l := BO N) (aN rfl (nG N) (aN rfl (tC N) trivial))) (aC _) aon (by decide) fun b valve => adx N b valve
def anS : Nat → Option Ann
 | 1 => some ⟨⟨[(0, kp), (5, kp), (13, .own 700013 9 Ty.str), (329, .own 700329 3 aj), (330, kp), (331, kp)], [(500000, [kp, kp, kp, kp, kp]), (5, [kp])], []⟩, [(1, ⟨[(0, kp), (5, kp), (13, .own 700013 9 Ty.str)], [(500000, [kp, kp, kp, kp, kp]), (5, [kp])], []⟩)], ⟨[], [], []⟩⟩
 | 1000003 => some ⟨⟨[], [], []⟩, [], ⟨[], [], []⟩⟩
 | 1000006 => some ⟨⟨[], [], []⟩, [], ⟨[], [], []⟩⟩
 | 1000011 => some ⟨⟨[], [], []⟩, [], ⟨[], [], []⟩⟩
 | 1000014 => some ⟨⟨[], [], []⟩, [], ⟨[], [], []⟩⟩
 | 1000016 => some ⟨⟨[], [], []⟩, [], ⟨[], [], []⟩⟩
 | 1000021 => some ⟨⟨[], [], []⟩, [], ⟨[], [], []⟩⟩
 | 1000023 => some ⟨⟨[], [], []⟩, [], ⟨[], [], []⟩⟩
 | 1000025 => some ⟨⟨[], [], []⟩, [], ⟨[], [], []⟩⟩
 | 1000027 => some ⟨⟨[], [], []⟩, [], ⟨[], [], []⟩⟩
 | 1000033 => some ⟨⟨[], [], []⟩, [], ⟨[], [], []⟩⟩
 | _ => none
noncomputable def pW : FI := ⟨Tryz.f11.results.toList, aK Tryz.f11.body, Tryz.f11.ntmps, anS⟩
theorem an5 : bI Tryz.prog 11 pW := ⟨⟨Tryz.f11, Tryz.func11, by kernel_rfl, rfl, rfl, by kernel_rfl⟩, by kernel_rfl⟩
def Ak (N : Nat) : List (Nat × ax) := [(10, fM N), (39, xC N), (40, WW N), (4300041, fO N), (43, OB N), (45, IE N), (44, eG N), (48, QC N), (47, XU N), (46, WV N), (49, Xn N), (50, XA N), (51, oD N), (53, P6 N), (54, YK N), (52, iI N), (55, Zd N)]
def Zu : ax := a_ [.bx aA, .d (.str) false] true [.d (.str) false]
def akx (s : Book) (r : List Txt) (r_45 : List Int) (t330 : Int) (t331 : Int) (l13a : List Txt) : St := ⟨[(0, vb 500000), (5, vb 5), (13, va 700013), (329, va 700329), (330, vv aj t330), (331, vv aj t331)], [(500000, .box [.v bT.slice s.1, .v aZ.slice s.2.1, .v ai s.2.2.1, .v bi.slice s.2.2.2.1, .v aj s.2.2.2.2]), (5, .box [.v ai r]), (700013, .arr 9 Ty.str l13a), (700329, .arr 3 aj r_45)]⟩
noncomputable def ajI (N : Nat) : Env := bQ (ay aG) (aU (Ak N)) aX N pW [500000]
noncomputable def aqY := (dE (ay aG) pW.res (kT (aT [.str, aA]) Zu [(500000, .bx aA)]))
noncomputable def Wj (N : Nat) (n : Nat) : St → Option (Txt × Book) := fun S' => iter [500000] (bH pW 1) (code (ajI N) (bY pW.body 0 1) 1) n S' (bg (ajI N) pW.body 0 1 aqY)
noncomputable def Nv (N : Nat) (s : Book) (r : List Txt) (r_45 : List Int) (t330 : Int) (n : Nat) : Int → (List Txt) → Option (Txt × Book) := fun t331 l13a => Wj N n (akx s r r_45 t330 t331 l13a)
theorem aaC (N : Nat) : Nv N = NQ N := funext fun s => funext fun r => funext fun r_45 => funext fun t330 => funext (bz (by kernel_rfl) fun n => by
 show _ = Fj N s r r_45 t330 (Nv N s r r_45 t330 n)
 kernel_rfl)
theorem ajb (N : Nat) (s : Book) (line : Txt) : aV (aT [.str, aA]) (ay aG) (aU (Ak N)) aX N pW Zu [⟨aA, s⟩, ⟨.str, line⟩] = F.acG N s line := by
 show _ = F.ae0 N (F.NQ N) s line
 rw [← aaC N]
 kernel_rfl
def Xf (N : Nat) : ax := aF [.bx aA, .d (.str) false] true [.d (.str) false] [.str, aA] (F.acG N)
theorem adk (N : Nat) : au Tryz.prog 11 (Xf N) := aJ (N := N) bf mixed (ah (l := Ak N) (aN rfl (iW N) (aN rfl (yg N) (aN rfl (akr N) (aN rfl (mZ N) (aN rfl (Tj N) (aN rfl (LC N) (aN rfl (kJ N) (aN rfl (abl N) (aN rfl (ajg N) (aN rfl (afm N) (aN rfl (akc N) (aN rfl (afK N) (aN rfl (nZ N) (aN rfl (acj N) (aN rfl (akL N) (aN rfl (nI N) (aN rfl (afE N) trivial)))))))))))))))))) (aC _) an5 (by decide) fun s line => ajb N s line
def aot : Nat → Option Ann
 | 0 => some ⟨⟨[(4, kp), (5, kp), (32, kp), (33, kp), (34, kp)], [(31, [Dir.frz bT, Dir.frz aZ, Dir.frz Ty.str, Dir.frz bi, kp])], []⟩, [(0, ⟨[(5, kp)], [], []⟩)], ⟨[], [], []⟩⟩
 | _ => none
noncomputable def qQ : FI := ⟨Tryz.f6.results.toList, aK Tryz.f6.body, Tryz.f6.ntmps, aot⟩
theorem apk : bI Tryz.prog 6 qQ := ⟨⟨Tryz.f6, Tryz.func6, by kernel_rfl, rfl, rfl, by kernel_rfl⟩, by kernel_rfl⟩
def Cm (N : Nat) : List (Nat × ax) := [(10, fM N), (11, Xf N)]
def Yt : ax := a_ [.d (.str) false] false [.d (.str) false]
def aih (t32 : List Txt) (t33 : Int) (out5 : Txt) (t34 : Int) (t31c0 : List Foe) (t31c1 : List aP) (t31c2 : List Txt) (t31c3 : List Part) (t31c4 : Int) : St := ⟨[(4, vb 31), (5, vv Ty.str out5), (32, vv ai t32), (33, vv aj t33), (34, vv aj t34)], [(31, .box [.v bT.slice t31c0, .v aZ.slice t31c1, .v ai t31c2, .v bi.slice t31c3, .v aj t31c4])]⟩
noncomputable def ai0 (N : Nat) : Env := bQ (ay aG) (aU (Cm N)) aX N qQ []
noncomputable def aq6 := (dE (ay aG) qQ.res (kT (aT [.str]) Yt []))
noncomputable def VM (N : Nat) (n : Nat) : St → Option Txt := fun S' => iter [] (bH qQ 0) (code (ai0 N) (bY qQ.body 0 0) 0) n S' (bg (ai0 N) qQ.body 0 0 aq6)
noncomputable def JU (N : Nat) (t32 : List Txt) (t33 : Int) (n : Nat) : Txt → Int → (List Foe) → (List aP) → (List Txt) → (List Part) → Int → Option Txt := fun out5 t34 t31c0 t31c1 t31c2 t31c3 t31c4 => VM N n (aih t32 t33 out5 t34 t31c0 t31c1 t31c2 t31c3 t31c4)
theorem acf (N : Nat) : JU N = vO N := funext fun t32 => funext fun t33 => funext (bz (by kernel_rfl) fun n => by
 show _ = uA N t32 t33 (JU N t32 t33 n)
 kernel_rfl)
theorem aiQ (N : Nat) (text : Txt) : aV (aT [.str]) (ay aG) (aU (Cm N)) aX N qQ Yt [⟨.str, text⟩] = F.afv N text := by
 show _ = F.aiB N (F.vO N) text
 rw [← acf N]
 kernel_rfl
def Xc (N : Nat) : ax := aF [.d (.str) false] false [.d (.str) false] [.str] (F.afv N)
theorem akv (N : Nat) : au Tryz.prog 6 (Xc N) := aJ (N := N) bf mixed (ah (l := Cm N) (aN rfl (iW N) (aN rfl (adk N) trivial))) (aC _) apk (by decide) fun text => aiQ N text
def amx : Nat → Option Ann := fun _ => none
noncomputable def YF : FI := ⟨Tryz.f3.results.toList, aK Tryz.f3.body, Tryz.f3.ntmps, amx⟩
theorem apb : bI Tryz.prog 3 YF := ⟨⟨Tryz.f3, Tryz.func3, by kernel_rfl, rfl, rfl, by kernel_rfl⟩, by kernel_rfl⟩
def LU (N : Nat) : List (Nat × ax) := [(5, Yo N), (6, Xc N)]
def alJ : ax := a_ [.d (.str) false] false [.d (.bool) false]
theorem aim (N : Nat) (aText : Txt) : aV (aT [.bool]) (ay aG) (aU (LU N)) aX N YF alJ [⟨.str, aText⟩] = F.abU N aText := by kernel_rfl
def alx (N : Nat) : ax := aF [.d (.str) false] false [.d (.bool) false] [.bool] (F.abU N)
theorem aje (N : Nat) : au Tryz.prog 3 (alx N) := aJ (N := N) bf mixed (ah (l := LU N) (aN rfl (afa N) (aN rfl (akv N) trivial))) (aC _) apb (by decide) fun aText => aim N aText
end
end Go.MC
namespace Go.MC
theorem aQ : lim = 140737488355328 := rfl
theorem wr {n : Int} (h1 : -9223372036854775808 ≤ n) (h2 : n ≤ 9223372036854775807) : IntKind.i64.wrap n = n := by
 rw [IntKind.wrap_i64]; omega
theorem wrS {i : Nat} (h : i ≤ 1000000000000000000) : IntKind.i64.wrap ((i : Int) + 1) = ((i + 1 : Nat) : Int) := by
 rw [wr (by omega) (by omega)]; omega
theorem wrP {i : Nat} (h : i ≤ 1000000000000000000) (h0 : 0 < i) : IntKind.i64.wrap ((i : Int) - 1) = ((i - 1 : Nat) : Int) := by
 rw [wr (by omega) (by omega)]; omega
theorem ak {α ρ : Type} {o : Option α} {a d : α} {B : α → Option ρ} (h : o = some a) : ob o d B = B a := by rw [h]; rfl
theorem dlt {i n : Nat} (h : i < n) : decide ((i : Int) < (n : Int)) = true := decide_eq_true (by omega)
theorem di (n : Nat) : decide ((n : Int) < (n : Int)) = false := decide_eq_false (by omega)
theorem dge (i : Nat) : decide ((0 : Int) ≤ (i : Int)) = true := decide_eq_true (by omega)
theorem gAt {α : Type} {l : List α} {i : Nat} (h : i < l.length) (d : α) : l.getD (Int.toNat (i : Int)) d = l[i] := by
 rw [Int.toNat_natCast, List.getD_eq_getElem?_getD, List.getElem?_eq_getElem h]; rfl
theorem rP {α : Type} {l : List α} {i : Nat} (d : α) : l.getD (Int.toNat (i : Int)) d = l.getD i d := by
 rw [Int.toNat_natCast]
theorem Jq (i : Nat) : decide ((i : Int) > 0) = !(i == 0) := by
 cases i <;> simp
def eY {α : Type} (p : Nat → α → Bool) : Nat → List α → Bool
 | _, [] => true
 | i, x :: xs => p i x && eY p (i + 1) xs
theorem dR {α : Type} {p : Nat → α → Bool} : ∀ {l : List α} {i : Nat}, eY p i l = true ↔ ∀ j x, l[j]? = some x → p (i + j) x = true
 | [], i => by simp [eY]
 | x :: xs, i => by
  simp only [eY, Bool.and_eq_true, dR (l := xs)]
  constructor
  ·rintro ⟨h1, h2⟩ j y hj
   cases j with
   | zero => simp at hj; subst hj; exact h1
   | succ j =>
    have := h2 j y (by simpa using hj)
    rwa [show i + 1 + j = i + (j + 1) by omega] at this
  ·intro h
   refine ⟨h 0 x rfl, fun j y hj => ?_⟩
   have := h (j + 1) y (by simpa using hj)
   rwa [show i + (j + 1) = i + 1 + j by omega] at this
theorem dF {α : Type} {p : α → Bool} : ∀ {l : List α} {i : Nat}, eY (fun _ x => p x) i l = l.all p
 | [], _ => rfl
 | x :: xs, i => by simp only [eY, List.all_cons, dF]
def outW {σ ρ : Type} (fin : σ → Option ρ) : σ ⊕ Option ρ → Option ρ
 | .inl s => fin s
 | .inr r => r
theorem eQ {α σ ρ F : Type} (l : List α) (ap : F → Nat → σ → Option ρ) (z : F) (rd : F → F) (f : Nat → σ → α → σ ⊕ Option ρ) (fin : σ → Option ρ) (Inv : Nat → σ → Prop)
 (hstep : ∀ (g : F) (i : Nat) (st : σ) (h : i < l.length), Inv i st → ap (rd g) i st = outW (fun st' => ap g (i + 1) st') (f i st l[i]) ∧ ∀ st', f i st l[i] = .inl st' → Inv (i + 1) st')
 (hend : ∀ (g : F) (st : σ), Inv l.length st → ap (rd g) l.length st = fin st) (N : Nat) (hN : l.length < N) (st : σ) (h0 : Inv 0 st) :
 ap (lp z rd N) 0 st = outW fin (dL f 0 l st) := by
 suffices H : ∀ (m i n : Nat) (st : σ), l.length - i = m → i ≤ l.length → m < n → Inv i st → ap (lp z rd n) i st = outW fin (dL f i (l.drop i) st) by
  have := H l.length 0 N st (by omega) (by omega) hN h0
  rwa [List.drop_zero] at this
 intro m
 induction m with
 | zero =>
  intro i n st h1 h2 h3 h4
  obtain ⟨n, rfl⟩ : ∃ j, n = j + 1 := ⟨n - 1, by omega⟩
  have hi : i = l.length := by omega
  subst hi
  rw [List.drop_length]
  exact hend _ st h4
 | succ m ih =>
  intro i n st h1 h2 h3 h4
  obtain ⟨n, rfl⟩ : ∃ j, n = j + 1 := ⟨n - 1, by omega⟩
  have hlt : i < l.length := by omega
  obtain ⟨h5, h6⟩ := hstep (lp z rd n) i st hlt h4
  rw [List.drop_eq_getElem_cons hlt]
  simp only [dL]
  refine h5.trans ?_
  cases hf : f i st l[i] with
  | inl st' => exact ih (i + 1) n st' (by omega) (by omega) (by omega) (h6 st' hf)
  | inr r => rfl
theorem bU {α ρ : Type} (l : List α) (rd : (Int → Option ρ) → Int → Option ρ) (p : Nat → α → Bool) (r fin : Option ρ)
 (hstep : ∀ (g : Int → Option ρ) (i : Nat) (h : i < l.length), rd g (i : Int) = bif p i l[i] then g ((i + 1 : Nat) : Int) else r)
 (hend : ∀ (g : Int → Option ρ), rd g (l.length : Int) = fin) (N : Nat) (hN : l.length < N) : lp (fun _ => none) rd N 0 = bif eY p 0 l then fin else r := by
 have := eQ l (fun (g : Int → Option ρ) i (_ : Unit) => g (i : Int)) (fun _ => none) rd (fun i _ x => bif p i x then .inl () else .inr r) (fun _ => fin) (fun _ _ => True)
  (fun g i st h _ => ⟨by
   rw [hstep g i h]
   cases p i l[i] <;> rfl, fun _ _ => trivial⟩) (fun g _ _ => hend g) N hN () trivial
 refine this.trans ?_
 have : ∀ (l : List α) i, outW (fun _ => fin) (dL (fun i (_ : Unit) x => bif p i x then Sum.inl () else Sum.inr r) i l ()) = bif eY p i l then fin else r := by
  intro l
  induction l with
  | nil => intro i; rfl
  | cons x xs ih =>
   intro i
   simp only [dL, eY]
   cases p i x with
   | true => simpa using ih (i + 1)
   | false => rfl
 exact this l 0
end Go.MC
namespace Go.MC
open Go.MC.F
def smT (s : Txt) : Prop := s.length ≤ 1048576
def smL (l : List Txt) : Prop := l.length ≤ 1048576 ∧ ∀ x ∈ l, smT x
def smU (u : Use) : Prop := smT u.1
def smW (w : Want) : Prop := smL w.2.2.1 ∧ (w.2.2.2.1.length ≤ 1048576 ∧ ∀ u ∈ w.2.2.2.1, smU u) ∧ smL w.2.2.2.2.1 ∧ smL w.2.2.2.2.2
def inB (n lo hi : Int) : Bool := decide (n ≥ lo) && decide (n ≤ hi)
theorem Je {N : Nat} (n lo hi : Int) : iD N n lo hi = some (inB n lo hi) := by
 unfold iD inB
 cases decide (n ≥ lo) <;> rfl
theorem tq {N : Nat} (n lo hi : Int) : jg N n lo hi = some (inB n lo hi) := by
 unfold jg inB
 cases decide (n ≥ lo) <;> rfl
def nmB (b : UInt8) : Bool := (decide ((b.toNat : Int) ≥ 97) && decide ((b.toNat : Int) ≤ 122)) || ((decide ((b.toNat : Int) ≥ 48) && decide ((b.toNat : Int) ≤ 57)) || ((b.toNat : Int) == 45))
def jh (s : Txt) : Bool := inB s.length 1 8 && s.all nmB
theorem sG {N : Nat} (hN : lim < N) (s : Txt) : Oj N s = some (jh s) := by
 have hlim := aQ
 unfold Oj ahB jh
 rw [ak (Je _ _ _)]
 cases hb : inB s.length 1 8 with
 | false => rfl
 | true =>
  have hl : s.length ≤ 8 := by
   simp only [inB, Bool.and_eq_true, decide_eq_true_eq] at hb
   omega
  refine (bU s _ (fun _ x => nmB x) (some false) (some true) (fun g i hi => ?_) (fun g => ?_) N (by omega)).trans ?_
  ·unfold EX
   simp only [dlt hi, dge, gAt hi, cond_true, wrS (show i ≤ 1000000000000000000 by omega), nmB]
   generalize decide ((s[i].toNat : Int) ≥ 97) = a1
   generalize decide ((s[i].toNat : Int) ≤ 122) = a2
   generalize decide ((s[i].toNat : Int) ≥ 48) = a3
   generalize decide ((s[i].toNat : Int) ≤ 57) = a4
   generalize ((s[i].toNat : Int) == 45) = a5
   cases a1 <;> cases a2 <;> cases a3 <;> cases a4 <;> cases a5 <;> rfl
  ·unfold EX
   rw [di]; rfl
  ·rw [dF]
   cases s.all nmB <;> rfl
theorem uo {N : Nat} (hN : lim < N) (s : Txt) : xq N s = some (jh s) := by
 have hlim := aQ
 unfold xq Wx jh
 rw [ak (tq _ _ _)]
 cases hb : inB s.length 1 8 with
 | false => rfl
 | true =>
  have hl : s.length ≤ 8 := by
   simp only [inB, Bool.and_eq_true, decide_eq_true_eq] at hb
   omega
  refine (bU s _ (fun _ x => nmB x) (some false) (some true) (fun g i hi => ?_) (fun g => ?_) N (by omega)).trans ?_
  ·unfold yX
   simp only [dlt hi, dge, gAt hi, cond_true, wrS (show i ≤ 1000000000000000000 by omega), nmB]
   generalize decide ((s[i].toNat : Int) ≥ 97) = a1
   generalize decide ((s[i].toNat : Int) ≤ 122) = a2
   generalize decide ((s[i].toNat : Int) ≥ 48) = a3
   generalize decide ((s[i].toNat : Int) ≤ 57) = a4
   generalize ((s[i].toNat : Int) == 45) = a5
   cases a1 <;> cases a2 <;> cases a3 <;> cases a4 <;> cases a5 <;> rfl
  ·unfold yX
   rw [di]; rfl
  ·rw [dF]
   cases s.all nmB <;> rfl
def Jw (l : List Txt) (i : Nat) (x : Txt) : Bool := i == 0 || Op.bytesLess (l.getD (i - 1) []) x
def dO (l : List Txt) (most : Int) : Bool := !decide ((l.length : Int) > most) && eY (fun i x => jh x && Jw l i x) 0 l
theorem nO {N : Nat} (hN : lim < N) {l : List Txt} (hl : l.length ≤ lim) (most : Int) : Jp N l most = some (dO l most) := by
 have hlim := aQ
 unfold Jp aea dO
 cases hb : decide ((l.length : Int) > most) with
 | true => rfl
 | false =>
  refine (bU l _ (fun i x => jh x && Jw l i x) (some false) (some true) (fun g i hi => ?_) (fun g => ?_) N (by omega)).trans ?_
  ·unfold EN Jw
   simp only [dlt hi, dge, gAt hi, cond_true, wrS (show i ≤ 1000000000000000000 by omega), Jq]
   rw [ak (sG hN _)]
   cases jh l[i] with
   | false => rfl
   | true =>
    cases h0 : i == 0 with
    | true => simp
    | false =>
     have h0' : 0 < i := by simp at h0; omega
     simp only [Bool.not_true, Bool.not_false, cond_true, cond_false, wrP (show i ≤ 1000000000000000000 by omega) h0', dge, dlt (show i - 1 < l.length by omega), rP, Bool.false_or, Bool.true_and]
     cases Op.bytesLess (l.getD (i - 1) []) l[i] <;> rfl
  ·unfold EN
   rw [di]; rfl
  ·cases eY (fun i x => jh x && Jw l i x) 0 l <;> rfl
theorem oq {N : Nat} (hN : lim < N) {l : List Txt} (hl : l.length ≤ lim) (most : Int) : sN N l most = some (dO l most) := by
 have hlim := aQ
 unfold sN TV dO
 cases hb : decide ((l.length : Int) > most) with
 | true => rfl
 | false =>
  refine (bU l _ (fun i x => jh x && Jw l i x) (some false) (some true) (fun g i hi => ?_) (fun g => ?_) N (by omega)).trans ?_
  ·unfold xU Jw
   simp only [dlt hi, dge, gAt hi, cond_true, wrS (show i ≤ 1000000000000000000 by omega), Jq]
   rw [ak (uo hN _)]
   cases jh l[i] with
   | false => rfl
   | true =>
    cases h0 : i == 0 with
    | true => simp
    | false =>
     have h0' : 0 < i := by simp at h0; omega
     simp only [Bool.not_true, Bool.not_false, cond_true, cond_false, wrP (show i ≤ 1000000000000000000 by omega) h0', dge, dlt (show i - 1 < l.length by omega), rP, Bool.false_or, Bool.true_and]
     cases Op.bytesLess (l.getD (i - 1) []) l[i] <;> rfl
  ·unfold xU
   rw [di]; rfl
  ·cases eY (fun i x => jh x && Jw l i x) 0 l <;> rfl
theorem Gf {N : Nat} (hN : lim < N) {l : List Txt} (hl : l.length ≤ lim) (s : Txt) : ug N l s = some (l.contains s) := by
 have hlim := aQ
 unfold ug UQ
 refine (bU l _ (fun _ x => !(x == s)) (some true) (some false) (fun g i hi => ?_) (fun g => ?_) N (by omega)).trans ?_
 ·unfold x_
  simp only [dlt hi, dge, gAt hi, cond_true, wrS (show i ≤ 1000000000000000000 by omega)]
  cases l[i] == s <;> rfl
 ·unfold x_
  rw [di]; rfl
 ·rw [dF, List.contains_eq_any_beq]
  have : l.all (fun x => !(x == s)) = !(l.any fun a => s == a) := by
   rw [List.not_any_eq_all_not]
   congr 1; funext x
   rw [Bool.beq_comm]
  rw [this]
  cases l.any fun a => s == a <;> rfl
theorem zl {N : Nat} (hN : lim < N) {a b : List Txt} (ha : a.length ≤ lim) (hb : b.length ≤ lim) : GY N a b = some (a.any fun x => b.contains x) := by
 have hlim := aQ
 unfold GY aiL
 refine (bU a _ (fun _ x => !(b.contains x)) (some true) (some false) (fun g i hi => ?_) (fun g => ?_) N (by omega)).trans ?_
 ·unfold Ep
  simp only [dlt hi, dge, gAt hi, cond_true, wrS (show i ≤ 1000000000000000000 by omega)]
  rw [ak (Gf hN hb _)]
  cases b.contains a[i] <;> rfl
 ·unfold Ep
  rw [di]; rfl
 ·rw [dF]
  have : a.all (fun x => !(b.contains x)) = !(a.any fun x => b.contains x) := by rw [List.not_any_eq_all_not]
  rw [this]
  cases a.any fun x => b.contains x <;> rfl
def fP {α : Type} (p : α → Bool) : Nat → List α → Int
 | _, [] => -1
 | i, x :: xs => bif p x then (i : Int) else fP p (i + 1) xs
theorem fC {α : Type} (p : α → Bool) : ∀ (l : List α) (i : Nat), decide (fP p i l ≥ 0) = l.any p
 | [], _ => rfl
 | x :: xs, i => by
  simp only [fP, List.any_cons]
  by_cases h : p x = true
  ·simp [h]
  ·simpa [h] using fC p xs (i + 1)
theorem T_ {α : Type} (l : List α) (rd : (Int → Option Int) → Int → Option Int) (p : α → Bool)
 (hstep : ∀ (g : Int → Option Int) (i : Nat) (h : i < l.length), rd g (i : Int) = bif p l[i] then some (i : Int) else g ((i + 1 : Nat) : Int))
 (hend : ∀ (g : Int → Option Int), rd g (l.length : Int) = some (-1)) (N : Nat) (hN : l.length < N) : lp (fun _ => none) rd N 0 = some (fP p 0 l) := by
 have := eQ l (fun (g : Int → Option Int) i (_ : Unit) => g (i : Int)) (fun _ => none) rd (fun i _ x => bif p x then .inr (some (i : Int)) else .inl ()) (fun _ => some (-1)) (fun _ _ => True)
  (fun g i st h _ => ⟨by
   rw [hstep g i h]
   cases p l[i] <;> rfl, fun _ _ => trivial⟩) (fun g _ _ => hend g) N hN () trivial
 refine this.trans ?_
 have : ∀ (l : List α) i, outW (fun _ => some (-1)) (dL (fun i (_ : Unit) x => bif p x then Sum.inr (some (i : Int)) else Sum.inl ()) i l ()) = some (fP p i l) := by
  intro l
  induction l with
  | nil => intro i; rfl
  | cons x xs ih =>
   intro i
   simp only [dL, fP]
   cases p x with
   | false => simpa using ih (i + 1)
   | true => rfl
 exact this l 0
theorem QE {N : Nat} (hN : lim < N) {l : List Txt} (hl : l.length ≤ lim) (s : Txt) : agl N l s = some (fP (fun x => s == x) 0 l) := by
 have hlim := aQ
 unfold agl acT
 refine T_ l _ (fun x => s == x) (fun g i hi => ?_) (fun g => ?_) N (by omega)
 ·unfold FH
  simp only [dlt hi, dge, gAt hi, cond_true, wrS (show i ≤ 1000000000000000000 by omega)]
 ·unfold FH
  rw [di]; rfl
theorem fK {N : Nat} (hN : lim < N) {l : List Txt} (hl : l.length ≤ lim) (s : Txt) : yl N l s = some (l.contains s) := by
 unfold yl
 rw [ak (QE hN hl s), fC, List.contains_eq_any_beq]
theorem Ey {α γ : Type} (l : List α) (rd : (Int → γ → Option (Int × γ)) → Int → γ → Option (Int × γ)) (p : α → Bool) (c : γ)
 (hstep : ∀ (g : Int → γ → Option (Int × γ)) (i : Nat) (h : i < l.length), rd g (i : Int) c = bif p l[i] then some ((i : Int), c) else g ((i + 1 : Nat) : Int) c)
 (hend : ∀ (g : Int → γ → Option (Int × γ)), rd g (l.length : Int) c = some (-1, c)) (N : Nat) (hN : l.length < N) : lp (fun _ _ => none) rd N 0 c = some (fP p 0 l, c) := by
 have := eQ l (fun (g : Int → γ → Option (Int × γ)) i (d : γ) => g (i : Int) d) (fun _ _ => none) rd (fun i d x => bif p x then .inr (some ((i : Int), d)) else .inl d) (fun d => some (-1, d)) (fun _ d => d = c)
  (fun g i st h hi => ⟨by
   subst hi
   rw [hstep g i h]
   cases p l[i] <;> rfl, fun st' hs => by
   subst hi
   cases hp : p l[i] with
   | true => rw [hp] at hs; cases hs
   | false => rw [hp] at hs; cases hs; rfl⟩) (fun g d hd => by subst hd; exact hend g) N hN c rfl
 refine this.trans ?_
 have : ∀ (l : List α) i, outW (fun d => some (-1, d)) (dL (fun i (d : γ) x => bif p x then Sum.inr (some ((i : Int), d)) else Sum.inl d) i l c) = some (fP p i l, c) := by
  intro l
  induction l with
  | nil => intro i; rfl
  | cons x xs ih =>
   intro i
   simp only [dL, fP]
   cases p x with
   | false => simpa using ih (i + 1)
   | true => rfl
 exact this l 0
theorem qX {N : Nat} (hN : lim < N) {a b : List Txt} (ha : a.length ≤ lim) (hb : b.length ≤ lim) : Q7 N a b = some (a.any fun x => b.contains x) := by
 have hlim := aQ
 unfold Q7 f_9
 have h : ahV N a b = some (fP (fun x => b.contains x) 0 a, b) := by
  unfold ahV adl
  refine Ey a _ (fun x => b.contains x) b (fun g i hi => ?_) (fun g => ?_) N (by omega)
  ·unfold FN
   simp only [dlt hi, dge, gAt hi, cond_true, wrS (show i ≤ 1000000000000000000 by omega)]
   have h1 : afT N a[i] b = some (b.contains a[i], b) := by
    unfold afT
    rw [ak (fK hN hb _)]
   rw [ak h1]
  ·unfold FN
   rw [di]; rfl
 rw [ak (a := (a.any fun x => b.contains x, b)) (by rw [ak h, fC])]
end Go.MC
namespace Go.MC
open Go.MC.F
theorem wr3 {a b c : Nat} (ha : a ≤ 1048576) (hb : b ≤ 1048576) (hc : c ≤ 1048576) : IntKind.i64.wrap (IntKind.i64.wrap ((a : Int) + (b : Int)) + (c : Int)) = (a : Int) + (b : Int) + (c : Int) := by
 rw [wr (n := (a : Int) + (b : Int)) (by omega) (by omega), wr (by omega) (by omega)]
theorem dpz (n : Nat) : decide ((n : Int) > 0) = !decide (n = 0) := by cases n <;> simp
theorem dpn (n : Nat) : decide ((n : Int) > 0) = decide (n ≠ 0) := by cases n <;> simp
theorem arL {a b c : Nat} : ((a : Int) + (b : Int) + (c : Int) == 0) = !decide (a + b + c ≠ 0) := by
 by_cases h : a + b + c = 0
 ·rw [decide_eq_false (by omega)]
  exact beq_iff_eq.2 (by omega)
 ·rw [decide_eq_true h]
  exact beq_eq_false_iff_ne.2 (by omega)
theorem aru {a b c : Nat} : decide ((a : Int) + (b : Int) + (c : Int) > 0) = decide (a + b + c ≠ 0) := by
 by_cases h : a + b + c = 0
 ·rw [decide_eq_false (by omega), decide_eq_false (by omega)]
 ·rw [decide_eq_true (by omega), decide_eq_true h]
def tH (w : Want) (i : Nat) (u : Use) : Bool :=
 jh u.1 && ((i == 0 || Op.bytesLess (w.2.2.2.1.getD (i - 1) bD).1 u.1) && (inB u.2.1 1 3 && (bif u.2.1 == 3 then u.2.2 == 0 else (w.2.1 == 1) && inB u.2.2 1 1000)))
def pR (w : Want) : Bool := !decide ((w.2.2.2.1.length : Int) > 8) && eY (tH w) 0 w.2.2.2.1
def dC (w : Want) : Bool :=
 inB w.1 1 1000000 && (inB w.2.1 1 3 && (pR w && (dO w.2.2.2.2.1 12 && (dO w.2.2.2.2.2 12 && (!(w.2.2.2.2.1.any fun x => w.2.2.2.2.2.contains x) &&
  (decide (w.2.2.2.1.length + w.2.2.2.2.1.length + w.2.2.2.2.2.length ≠ 0) && (((w.2.1 == 1) || decide (w.2.2.2.2.1.length = 0)) && (dO w.2.2.1 8 && ((w.2.1 == 1) == decide (w.2.2.1.length ≠ 0))))))))))
theorem ajU {N : Nat} (hN : lim < N) (w : Want) : ag_ N w = some (pR w) := by
 have hlim := aQ
 unfold ag_ ahM pR
 cases hb : decide ((w.2.2.2.1.length : Int) > 8) with
 | true => rfl
 | false =>
  have hl : w.2.2.2.1.length ≤ 8 := by have := of_decide_eq_false hb; omega
  refine (bU w.2.2.2.1 _ (tH w) (some false) (some true) (fun g i hi => ?_) (fun g => ?_) N (by omega)).trans ?_
  ·unfold Ec tH
   simp only [dlt hi, dge, gAt hi, cond_true, wrS (show i ≤ 1000000000000000000 by omega), Jq]
   rw [ak (sG hN _)]
   cases jh w.2.2.2.1[i].1 with
   | false => rfl
   | true =>
    have key : (ob (iD N w.2.2.2.1[i].2.1 1 3) false fun r => bif !r then some false else bif w.2.2.2.1[i].2.1 == 3 then bif w.2.2.2.1[i].2.2 != 0 then some false else bif w.2.2.2.1[i].2.1 != 3 then bif w.2.1 != 1 then some false else ob (iD N w.2.2.2.1[i].2.2 1 1000) false fun r => bif !r then some false else g ((i + 1 : Nat) : Int) else g ((i + 1 : Nat) : Int)
     else bif w.2.2.2.1[i].2.1 != 3 then bif w.2.1 != 1 then some false else ob (iD N w.2.2.2.1[i].2.2 1 1000) false fun r => bif !r then some false else g ((i + 1 : Nat) : Int) else g ((i + 1 : Nat) : Int)) =
     bif (inB w.2.2.2.1[i].2.1 1 3 && (bif w.2.2.2.1[i].2.1 == 3 then w.2.2.2.1[i].2.2 == 0 else (w.2.1 == 1) && inB w.2.2.2.1[i].2.2 1 1000)) then g ((i + 1 : Nat) : Int) else some false := by
     rw [ak (Je _ _ _)]
     simp only [ak (Je w.2.2.2.1[i].2.2 1 1000), bne]
     cases inB w.2.2.2.1[i].2.1 1 3 <;> cases (w.2.2.2.1[i].2.1 == 3) <;> cases (w.2.2.2.1[i].2.2 == 0) <;> cases (w.2.1 == 1) <;> cases inB w.2.2.2.1[i].2.2 1 1000 <;> rfl
    cases h0 : i == 0 with
    | true =>
     simp only [Bool.not_true, cond_false, Bool.true_or, Bool.true_and]
     exact key
    | false =>
     have h0' : 0 < i := by simp at h0; omega
     simp only [Bool.not_true, Bool.not_false, cond_true, cond_false, wrP (show i ≤ 1000000000000000000 by omega) h0', dge, dlt (show i - 1 < w.2.2.2.1.length by omega), rP, Bool.false_or, Bool.true_and]
     cases Op.bytesLess (w.2.2.2.1.getD (i - 1) bD).1 w.2.2.2.1[i].1 with
     | false => rfl
     | true => exact key
  ·unfold Ec
   rw [di]; rfl
  ·cases eY (tH w) 0 w.2.2.2.1 <;> rfl
theorem I7 {N : Nat} (hN : lim < N) {w : Want} (h : smW w) : abH N w = some (dC w) := by
 have hlim := aQ
 obtain ⟨h1, h2, h3, h4⟩ := h
 have l1 := h1.1
 have l2 := h2.1
 have l3 := h3.1
 have l4 := h4.1
 unfold abH dC
 rw [wr3 l2 l3 l4]
 rw [ak (Je _ _ _)]
 simp only [ak (Je w.2.1 1 3), ak (ajU hN w), ak (nO hN (show w.2.2.2.2.1.length ≤ lim by omega) 12), ak (nO hN (show w.2.2.2.2.2.length ≤ lim by omega) 12), ak (zl hN (show w.2.2.2.2.1.length ≤ lim by omega) (show w.2.2.2.2.2.length ≤ lim by omega)), ak (nO hN (show w.2.2.1.length ≤ lim by omega) 8), bne]
 rw [arL]
 rw [dpz w.2.2.2.2.1.length]
 rw [dpn w.2.2.1.length]
 generalize inB w.1 1 1000000 = x0
 generalize inB w.2.1 1 3 = x1
 generalize pR w = x2
 generalize dO w.2.2.2.2.1 12 = x3
 generalize dO w.2.2.2.2.2 12 = x4
 generalize (w.2.2.2.2.1.any fun x => w.2.2.2.2.2.contains x) = x5
 generalize decide (w.2.2.2.1.length + w.2.2.2.2.1.length + w.2.2.2.2.2.length ≠ 0) = x6
 generalize (w.2.1 == 1) = x7
 generalize decide (w.2.2.2.2.1.length = 0) = x8
 generalize dO w.2.2.1 8 = x9
 generalize decide (w.2.2.1.length ≠ 0) = x10
 revert x0 x1 x2 x3 x4 x5 x6 x7 x8 x9 x10
 decide +kernel
theorem Iw {N : Nat} (hN : lim < N) {w : Want} (h : smW w) : abv N w = some (dC w) := by
 have hlim := aQ
 obtain ⟨h1, h2, h3, h4⟩ := h
 have l1 := h1.1
 have l2 := h2.1
 have l3 := h3.1
 have l4 := h4.1
 unfold abv ajh
 rw [ak (tq _ _ _)]
 simp only [ak (tq w.2.1 1 3), ak (oq hN (show w.2.2.1.length ≤ lim by omega) 8)]
 have loop : O0 N w (w.2.1 == 1) (w.2.2.2.1.length : Int) N 0 = bif eY (tH w) 0 w.2.2.2.1 then (uF N w (w.2.1 == 1) (w.2.2.2.1.length : Int) (fun _ => none) (w.2.2.2.1.length : Int)) else some false := by
  refine bU w.2.2.2.1 _ (tH w) (some false) _ (fun g i hi => ?_) (fun g => ?_) N (by omega)
  ·unfold uF tH
   simp only [dlt hi, dge, gAt hi, cond_true, wrS (show i ≤ 1000000000000000000 by omega), Jq]
   rw [ak (uo hN _)]
   cases jh w.2.2.2.1[i].1 with
   | false => rfl
   | true =>
    have key : (ob (jg N w.2.2.2.1[i].2.1 1 3) false fun r => bif !r then some false else bif w.2.2.2.1[i].2.1 == 3 then bif w.2.2.2.1[i].2.2 != 0 then some false else g ((i + 1 : Nat) : Int)
     else bif !(w.2.1 == 1) then some false else ob (jg N w.2.2.2.1[i].2.2 1 1000) false fun r => bif !r then some false else g ((i + 1 : Nat) : Int)) =
     bif (inB w.2.2.2.1[i].2.1 1 3 && (bif w.2.2.2.1[i].2.1 == 3 then w.2.2.2.1[i].2.2 == 0 else (w.2.1 == 1) && inB w.2.2.2.1[i].2.2 1 1000)) then g ((i + 1 : Nat) : Int) else some false := by
     rw [ak (tq _ _ _)]
     simp only [ak (tq w.2.2.2.1[i].2.2 1 1000), bne]
     cases inB w.2.2.2.1[i].2.1 1 3 <;> cases (w.2.2.2.1[i].2.1 == 3) <;> cases (w.2.2.2.1[i].2.2 == 0) <;> cases (w.2.1 == 1) <;> cases inB w.2.2.2.1[i].2.2 1 1000 <;> rfl
    cases h0 : i == 0 with
    | true =>
     simp only [Bool.not_true, cond_false, Bool.true_or, Bool.true_and]
     exact key
    | false =>
     have h0' : 0 < i := by simp at h0; omega
     simp only [Bool.not_true, Bool.not_false, cond_true, cond_false, wrP (show i ≤ 1000000000000000000 by omega) h0', dge, dlt (show i - 1 < w.2.2.2.1.length by omega), rP, Bool.false_or, Bool.true_and]
     cases Op.bytesLess (w.2.2.2.1.getD (i - 1) bD).1 w.2.2.2.1[i].1 with
     | false => rfl
     | true => exact key
  ·unfold uF
   rw [di]; rfl
 rw [loop]
 unfold uF dC pR
 rw [di, cond_false, wr3 l2 l3 l4]
 rw [ak (oq hN (show w.2.2.2.2.1.length ≤ lim by omega) 12)]
 simp only [ak (oq hN (show w.2.2.2.2.2.length ≤ lim by omega) 12), ak (qX hN (show w.2.2.2.2.1.length ≤ lim by omega) (show w.2.2.2.2.2.length ≤ lim by omega))]
 rw [aru]
 rw [dpz w.2.2.2.2.1.length]
 rw [dpn w.2.2.1.length]
 generalize inB w.1 1 1000000 = x0
 generalize inB w.2.1 1 3 = x1
 generalize dO w.2.2.1 8 = x2
 generalize (w.2.1 == 1) = x3
 generalize decide (w.2.2.1.length ≠ 0) = x4
 generalize decide ((w.2.2.2.1.length : Int) > 8) = x5
 generalize eY (tH w) 0 w.2.2.2.1 = x6
 generalize dO w.2.2.2.2.1 12 = x7
 generalize dO w.2.2.2.2.2 12 = x8
 generalize (w.2.2.2.2.1.any fun x => w.2.2.2.2.2.contains x) = x9
 generalize decide (w.2.2.2.2.1.length = 0) = x10
 generalize decide (w.2.2.2.1.length + w.2.2.2.2.1.length + w.2.2.2.2.2.length ≠ 0) = x11
 revert x0 x1 x2 x3 x4 x5 x6 x7 x8 x9 x10 x11
 decide +kernel
end Go.MC
namespace Go.MC
open Go.MC.F
def smF (f : Foe) : Prop := smT f.1 ∧ smT f.2
def smS (s : aP) : Prop := smT s.1 ∧ smL s.2.2.2.2
def smP (p : Part) : Prop := smW p.1
def smB (b : Book) : Prop := (b.1.length ≤ 1048576 ∧ ∀ f ∈ b.1, smF f) ∧ (b.2.1.length ≤ 1048576 ∧ ∀ s ∈ b.2.1, smS s) ∧ smL b.2.2.1 ∧ (b.2.2.2.1.length ≤ 1048576 ∧ ∀ p ∈ b.2.2.2.1, smP p)
end Go.MC
namespace Go.MC
open Go.MC.F
theorem ed : ∀ l : Txt, Op.bytesLess l l = false
 | [] => rfl
 | a :: x => by
  have : ¬ a < a := UInt8.lt_irrefl a
  simp [Op.bytesLess, this, ed x]
theorem not_any {α : Type} (l : List α) (p : α → Bool) : l.all (fun x => !p x) = !l.any p := by rw [List.not_any_eq_all_not]
theorem an1 {α : Type} (l : List α) (p : α → Bool) : l.any (fun x => !p x) = !l.all p := by rw [List.not_all_eq_any_not]
def mi (b : Book) (x y : Txt) : Bool := b.1.any fun f => (f.1 == x && f.2 == y) || (f.1 == y && f.2 == x)
def clash (b : Book) (x y : List Txt) : Bool := b.1.any fun f => (x.contains f.1 && y.contains f.2) || (x.contains f.2 && y.contains f.1)
theorem QU (b : Book) (x y : List Txt) : clash b x y = x.any fun u => y.any fun v => mi b u v := by
 rw [Bool.eq_iff_iff]
 simp only [clash, mi, List.any_eq_true, Bool.or_eq_true, Bool.and_eq_true, List.contains_iff_mem, beq_iff_eq]
 constructor
 ·rintro ⟨f, hf, ⟨h1, h2⟩ | ⟨h1, h2⟩⟩
  ·exact ⟨f.1, h1, f.2, h2, f, hf, .inl ⟨rfl, rfl⟩⟩
  ·exact ⟨f.2, h1, f.1, h2, f, hf, .inr ⟨rfl, rfl⟩⟩
 ·rintro ⟨u, hu, v, hv, f, hf, ⟨rfl, rfl⟩ | ⟨rfl, rfl⟩⟩
  ·exact ⟨f, hf, .inl ⟨hu, hv⟩⟩
  ·exact ⟨f, hf, .inr ⟨hu, hv⟩⟩
theorem aqg {N : Nat} (hN : lim < N) {b : Book} (hb : b.1.length ≤ 1048576) (x y : Txt) : aiR N b x y = some (mi b x y) := by
 have hlim := aQ
 unfold aiR ae5
 refine (bU b.1 _ (fun _ f => !((f.1 == x && f.2 == y) || (f.1 == y && f.2 == x))) (some true) (some false) (fun g i hi => ?_) (fun g => ?_) N (by omega)).trans ?_
 ·unfold EG
  simp only [dlt hi, dge, gAt hi, cond_true, wrS (show i ≤ 1000000000000000000 by omega)]
  generalize (b.1[i].1 == x) = a1
  generalize (b.1[i].2 == y) = a2
  generalize (b.1[i].1 == y) = a3
  generalize (b.1[i].2 == x) = a4
  cases a1 <;> cases a2 <;> cases a3 <;> cases a4 <;> rfl
 ·unfold EG
  rw [di]; rfl
 ·rw [dF, not_any]
  unfold mi
  cases b.1.any fun f => (f.1 == x && f.2 == y) || (f.1 == y && f.2 == x) <;> rfl
theorem Zy {N : Nat} (hN : lim < N) {b : Book} (hb : b.1.length ≤ 1048576) (x : Txt) {may : List Txt} (hm : may.length ≤ 1048576) : aaE N b x may = some (may.any fun v => mi b x v) := by
 have hlim := aQ
 unfold aaE ai9
 refine (bU may _ (fun _ v => !(mi b x v)) (some true) (some false) (fun g i hi => ?_) (fun g => ?_) N (by omega)).trans ?_
 ·unfold E5
  simp only [dlt hi, dge, gAt hi, cond_true, wrS (show i ≤ 1000000000000000000 by omega)]
  rw [ak (aqg hN hb _ _)]
  cases mi b x may[i] <;> rfl
 ·unfold E5
  rw [di]; rfl
 ·rw [dF, not_any]
  cases may.any fun v => mi b x v <;> rfl
theorem Hq {N : Nat} (hN : lim < N) {b : Book} (hb : b.1.length ≤ 1048576) {x y : List Txt} (hx : x.length ≤ 1048576) (hy : y.length ≤ 1048576) : Om N b x y = some (clash b x y) := by
 have hlim := aQ
 unfold Om adE
 refine (bU b.1 _ (fun _ f => !((x.contains f.1 && y.contains f.2) || (x.contains f.2 && y.contains f.1))) (some true) (some false) (fun g i hi => ?_) (fun g => ?_) N (by omega)).trans ?_
 ·unfold FK
  simp only [dlt hi, dge, gAt hi, cond_true, wrS (show i ≤ 1000000000000000000 by omega)]
  simp only [ak (fK hN (show x.length ≤ lim by omega) _), ak (fK hN (show y.length ≤ lim by omega) _)]
  generalize x.contains b.1[i].1 = a1
  generalize y.contains b.1[i].2 = a2
  generalize x.contains b.1[i].2 = a3
  generalize y.contains b.1[i].1 = a4
  cases a1 <;> cases a2 <;> cases a3 <;> cases a4 <;> rfl
 ·unfold FK
  rw [di]; rfl
 ·rw [dF, not_any]
  unfold clash
  cases b.1.any fun f => (x.contains f.1 && y.contains f.2) || (x.contains f.2 && y.contains f.1) <;> rfl
def GK (f g : Foe) : Bool := Op.bytesLess f.1 g.1 || (f.1 == g.1 && Op.bytesLess f.2 g.2)
def vz (b : Book) (i : Nat) (f : Foe) : Bool := jh f.1 && (jh f.2 && (Op.bytesLess f.1 f.2 && (i == 0 || GK (b.1.getD (i - 1) gX) f)))
def ui (b : Book) : Bool := !decide ((b.1.length : Int) > 12) && eY (vz b) 0 b.1
theorem aaR {N : Nat} (f g : Foe) : afM N f g = some (GK f g) := by
 unfold afM GK
 cases Op.bytesLess f.1 g.1 <;> cases (f.1 == g.1) <;> rfl
theorem akn {N : Nat} (hN : lim < N) (b : Book) : adI N b = some (ui b) := by
 have hlim := aQ
 unfold adI ags ui
 cases hb : decide ((b.1.length : Int) > 12) with
 | true => rfl
 | false =>
  have hl : b.1.length ≤ 12 := by have := of_decide_eq_false hb; omega
  refine (bU b.1 _ (vz b) (some false) (some true) (fun g i hi => ?_) (fun g => ?_) N (by omega)).trans ?_
  ·unfold FC vz
   simp only [dlt hi, dge, gAt hi, cond_true, wrS (show i ≤ 1000000000000000000 by omega), Jq]
   rw [ak (sG hN _)]
   simp only [ak (sG hN b.1[i].2)]
   cases jh b.1[i].1 with
   | false => rfl
   | true =>
    cases jh b.1[i].2 with
    | false => rfl
    | true =>
     cases Op.bytesLess b.1[i].1 b.1[i].2 with
     | false => rfl
     | true =>
      cases h0 : i == 0 with
      | true => rfl
      | false =>
       have h0' : 0 < i := by simp at h0; omega
       simp only [Bool.not_true, Bool.not_false, cond_true, cond_false, wrP (show i ≤ 1000000000000000000 by omega) h0', dge, dlt (show i - 1 < b.1.length by omega), rP, Bool.false_or, Bool.true_and, GK]
       cases he : (b.1.getD (i - 1) gX).1 == b.1[i].1 with
       | false => cases Op.bytesLess (b.1.getD (i - 1) gX).1 b.1[i].1 <;> rfl
       | true =>
        rw [eq_of_beq he, ed]
        cases Op.bytesLess (b.1.getD (i - 1) gX).2 b.1[i].2 <;> rfl
  ·unfold FC
   rw [di]; rfl
  ·cases eY (vz b) 0 b.1 <;> rfl
def atB (b : Book) (n : Txt) : Int := fP (fun s : aP => s.1 == n) 0 b.2.1
theorem wI {N : Nat} (hN : lim < N) {b : Book} (hb : b.2.1.length ≤ 1048576) (n : Txt) : D8 N b n = some (atB b n) := by
 have hlim := aQ
 unfold D8 akl atB
 refine T_ b.2.1 _ (fun s : aP => s.1 == n) (fun g i hi => ?_) (fun g => ?_) N (by omega)
 ·unfold EW
  simp only [dlt hi, dge, gAt hi, cond_true, wrS (show i ≤ 1000000000000000000 by omega)]
 ·unfold EW
  rw [di]; rfl
theorem vZ {N : Nat} (hN : lim < N) {b : Book} (hb : b.2.1.length ≤ 1048576) (n : Txt) : zx N b n = some (atB b n) := by
 have hlim := aQ
 unfold zx atB
 have h : f_3 N b.2.1 n = some (fP (fun s : aP => s.1 == n) 0 b.2.1, n) := by
  unfold f_3 ap4
  refine Ey b.2.1 _ (fun s : aP => s.1 == n) n (fun g i hi => ?_) (fun g => ?_) N (by omega)
  ·unfold PP
   simp only [dlt hi, dge, gAt hi, cond_true, wrS (show i ≤ 1000000000000000000 by omega)]
   rw [ak (show alT N b.2.1[i] n = some (b.2.1[i].1 == n, n) from rfl)]
  ·unfold PP
   rw [di]; rfl
 rw [ak h]
theorem Fp {α : Type} (p : α → Bool) : ∀ (l : List α) (i : Nat), 0 ≤ fP p i l → fP p i l < i + l.length
 | [], _, h => by simp [fP] at h
 | x :: xs, i, h => by
  simp only [fP] at h ⊢
  by_cases hp : p x = true
  ·simp only [hp, cond_true, List.length_cons] at h ⊢; omega
  ·have hp : p x = false := by simpa using hp
   simp only [hp, cond_false, List.length_cons] at h ⊢
   have := Fp p xs (i + 1) h
   omega
theorem aeT {N : Nat} (hN : lim < N) {a b : List Txt} (ha : a.length ≤ 1048576) (hb : b.length ≤ 1048576) : nD N a b = some (a.all fun x => b.contains x) := by
 have hlim := aQ
 unfold nD Ux
 refine (bU a _ (fun _ x => b.contains x) (some false) (some true) (fun g i hi => ?_) (fun g => ?_) N (by omega)).trans ?_
 ·unfold xy
  simp only [dlt hi, dge, gAt hi, cond_true, wrS (show i ≤ 1000000000000000000 by omega)]
  rw [ak (Gf hN (show b.length ≤ lim by omega) _)]
  cases b.contains a[i] <;> rfl
 ·unfold xy
  rw [di]; rfl
 ·rw [dF]
  cases a.all fun x => b.contains x <;> rfl
theorem lF {N : Nat} (hN : lim < N) {a b : List Txt} (ha : a.length ≤ 1048576) (hb : b.length ≤ 1048576) : AY N a b = some (a.all fun x => b.contains x) := by
 have hlim := aQ
 unfold AY ana
 have h : aei N a b = some (fP (fun x => !b.contains x) 0 a, b) := by
  unfold aei aeJ
  refine Ey a _ (fun x => !b.contains x) b (fun g i hi => ?_) (fun g => ?_) N (by omega)
  ·unfold Es
   simp only [dlt hi, dge, gAt hi, cond_true, wrS (show i ≤ 1000000000000000000 by omega)]
   have h1 : akE N a[i] b = some (!b.contains a[i], b) := by
    unfold akE
    rw [ak (fK hN (show b.length ≤ lim by omega) _)]
   rw [ak h1]
  ·unfold Es
   rw [di]; rfl
 rw [ak (a := (!(a.all fun x => b.contains x), b)) (by rw [ak h, fC, an1]), Bool.not_not]
def dG (b : Book) (w : Want) : Bool := (w.2.2.2.1.all fun u => !decide (atB b u.1 < 0)) && ((w.2.2.2.2.1.all fun x => b.2.2.1.contains x) && (w.2.2.2.2.2.all fun x => b.2.2.1.contains x))
theorem Zq {N : Nat} (hN : lim < N) {b : Book} {w : Want} (hb : smB b) (hw : smW w) : aco N b w = some (dG b w) := by
 have hlim := aQ
 have h1 := hw.2.1.1
 have h2 : w.2.2.2.2.1.length ≤ 1048576 := hw.2.2.1.1
 have h3 : w.2.2.2.2.2.length ≤ 1048576 := hw.2.2.2.1
 have h4 : b.2.2.1.length ≤ 1048576 := hb.2.2.1.1
 have h5 := hb.2.1.1
 unfold aco af4 dG
 have k4 : Bo N b w N 0 = some (w.2.2.2.2.2.all fun x => b.2.2.1.contains x) := by
  refine (bU w.2.2.2.2.2 _ (fun _ x => b.2.2.1.contains x) (some false) (some true) (fun g i hi => ?_) (fun g => ?_) N (by omega)).trans ?_
  ·unfold ER
   simp only [dlt hi, dge, gAt hi, cond_true, wrS (show i ≤ 1000000000000000000 by omega)]
   rw [ak (Gf hN (show b.2.2.1.length ≤ lim by omega) _)]
   cases b.2.2.1.contains w.2.2.2.2.2[i] <;> rfl
  ·unfold ER
   rw [di]; rfl
  ·rw [dF]
   cases w.2.2.2.2.2.all fun x => b.2.2.1.contains x <;> rfl
 have k2 : Az N b w N 0 = some ((w.2.2.2.2.1.all fun x => b.2.2.1.contains x) && (w.2.2.2.2.2.all fun x => b.2.2.1.contains x)) := by
  refine (bU w.2.2.2.2.1 _ (fun _ x => b.2.2.1.contains x) (some false) (Bo N b w N 0) (fun g i hi => ?_) (fun g => ?_) N (by omega)).trans ?_
  ·unfold EI
   simp only [dlt hi, dge, gAt hi, cond_true, wrS (show i ≤ 1000000000000000000 by omega)]
   rw [ak (Gf hN (show b.2.2.1.length ≤ lim by omega) _)]
   cases b.2.2.1.contains w.2.2.2.2.1[i] <;> rfl
  ·unfold EI
   rw [di]; rfl
  ·rw [dF, k4]
   cases w.2.2.2.2.1.all fun x => b.2.2.1.contains x <;> rfl
 refine (bU w.2.2.2.1 _ (fun _ u => !decide (atB b u.1 < 0)) (some false) (Az N b w N 0) (fun g i hi => ?_) (fun g => ?_) N (by omega)).trans ?_
 ·unfold EU
  simp only [dlt hi, dge, gAt hi, cond_true, wrS (show i ≤ 1000000000000000000 by omega)]
  rw [ak (wI hN h5 _)]
  cases decide (atB b w.2.2.2.1[i].1 < 0) <;> rfl
 ·unfold EU
  rw [di]; rfl
 ·rw [dF, k2]
  cases w.2.2.2.1.all fun u => !decide (atB b u.1 < 0) <;> rfl
theorem J4 {N : Nat} (hN : lim < N) {b : Book} {w : Want} (hb : smB b) (hw : smW w) : aca N b w = some (dG b w) := by
 have hlim := aQ
 have h1 := hw.2.1.1
 have h2 : w.2.2.2.2.1.length ≤ 1048576 := hw.2.2.1.1
 have h3 : w.2.2.2.2.2.length ≤ 1048576 := hw.2.2.2.1
 have h4 : b.2.2.1.length ≤ 1048576 := hb.2.2.1.1
 have h5 := hb.2.1.1
 unfold aca ajx dG
 refine (bU w.2.2.2.1 _ (fun _ u => !decide (atB b u.1 < 0)) (some false) (some ((w.2.2.2.2.1.all fun x => b.2.2.1.contains x) && (w.2.2.2.2.2.all fun x => b.2.2.1.contains x))) (fun g i hi => ?_) (fun g => ?_) N (by omega)).trans ?_
 ·unfold Fh
  simp only [dlt hi, dge, gAt hi, cond_true, wrS (show i ≤ 1000000000000000000 by omega)]
  rw [ak (vZ hN h5 _)]
  cases decide (atB b w.2.2.2.1[i].1 < 0) <;> rfl
 ·unfold Fh
  rw [di, cond_false, ak (lF hN h2 h4)]
  simp only [ak (lF hN h3 h4)]
  cases w.2.2.2.2.1.all fun x => b.2.2.1.contains x <;> rfl
 ·rw [dF]
  cases w.2.2.2.1.all fun u => !decide (atB b u.1 < 0) <;> rfl
def lY (s : aP) (w : Want) (u : Use) : Bool :=
 !((w.2.1 == 2) && decide (s.2.2.2.1 > 0)) && (!((w.2.1 == 1) && (!(u.2.1 == 2) && !(s.2.2.2.2.all fun x => w.2.2.1.contains x))) && (!((w.2.1 == 1) && (!(u.2.1 == 1) && !(w.2.2.1.all fun x => s.2.2.2.2.contains x))) && decide (IntKind.i64.wrap (s.2.2.1 + u.2.2) ≤ s.2.2.2.1)))
theorem akP {N : Nat} (hN : lim < N) {s : aP} {w : Want} (hs : smS s) (hw : smW w) (u : Use) : afA N s w u = some (lY s w u) := by
 unfold afA lY
 simp only [ak (aeT hN hs.2.1 hw.1.1), ak (aeT hN hw.1.1 hs.2.1), bne]
 generalize (w.2.1 == 2) = x0
 generalize decide (s.2.2.2.1 > 0) = x1
 generalize (w.2.1 == 1) = x2
 generalize (u.2.1 == 2) = x3
 generalize (u.2.1 == 1) = x4
 generalize (s.2.2.2.2.all fun x => w.2.2.1.contains x) = x5
 generalize (w.2.2.1.all fun x => s.2.2.2.2.contains x) = x6
 generalize decide (IntKind.i64.wrap (s.2.2.1 + u.2.2) ≤ s.2.2.2.1) = x7
 revert x0 x1 x2 x3 x4 x5 x6 x7
 decide +kernel
def bG (b : Book) (n : Txt) : aP := b.2.1.getD (atB b n).toNat az
def lu (b : Book) (p : Part) : Bool := !decide (p.1.1 > b.2.2.2.2) && (dC p.1 && (dG b p.1 && p.1.2.2.2.1.all fun u => lY (bG b u.1) p.1 u))
theorem fU {b : Book} {w : Want} (h : dG b w = true) {i : Nat} (hi : i < w.2.2.2.1.length) : 0 ≤ atB b w.2.2.2.1[i].1 ∧ atB b w.2.2.2.1[i].1 < b.2.1.length := by
 simp only [dG, Bool.and_eq_true] at h
 have h1 := List.all_eq_true.1 h.1 _ (List.getElem_mem hi)
 have h2 : 0 ≤ atB b w.2.2.2.1[i].1 := by
  have : ¬ atB b w.2.2.2.1[i].1 < 0 := by simpa using h1
  omega
 refine ⟨h2, ?_⟩
 have := Fp (fun s : aP => s.1 == w.2.2.2.1[i].1) b.2.1 0 h2
 unfold atB
 omega
theorem getD_mem {α : Type} {l : List α} {i : Nat} (h : i < l.length) (d : α) : l.getD i d ∈ l := by
 rw [List.getD_eq_getElem?_getD, List.getElem?_eq_getElem h]
 exact List.getElem_mem h
theorem lM {b : Book} {n : Txt} (h : 0 ≤ atB b n) (h2 : atB b n < b.2.1.length) : bG b n ∈ b.2.1 := getD_mem (by omega) _
theorem afQ {N : Nat} (hN : lim < N) {b : Book} {p : Part} (hb : smB b) (hp : smP p) : ahJ N b p = some (lu b p) := by
 have hlim := aQ
 have h1 := hp.2.1.1
 unfold ahJ ahl lu
 rw [ak (I7 hN hp)]
 simp only [ak (Zq hN hb hp)]
 cases dC p.1 with
 | false => cases decide (p.1.1 > b.2.2.2.2) <;> rfl
 | true =>
  cases decide (p.1.1 > b.2.2.2.2) with
  | true => rfl
  | false =>
   cases hk : dG b p.1 with
   | false => rfl
   | true =>
    refine (bU p.1.2.2.2.1 _ (fun _ u => lY (bG b u.1) p.1 u) (some false) (some true) (fun g i hi => ?_) (fun g => ?_) N (by omega)).trans ?_
    ·obtain ⟨h2, h3⟩ := fU hk hi
     unfold EM
     simp only [dlt hi, dge, gAt hi, cond_true, wrS (show i ≤ 1000000000000000000 by omega)]
     rw [ak (wI hN hb.2.1.1 _), decide_eq_true h2, decide_eq_true h3]
     simp only [cond_true, show b.2.1.getD (atB b p.1.2.2.2.1[i].1).toNat az = bG b p.1.2.2.2.1[i].1 from rfl]
     rw [ak (akP hN (hb.2.1.2 _ (lM h2 h3)) hp _)]
     cases lY (bG b p.1.2.2.2.1[i].1) p.1 p.1.2.2.2.1[i] <;> rfl
    ·unfold EM
     rw [di]; rfl
    ·rw [dF]
     cases p.1.2.2.2.1.all fun u => lY (bG b u.1) p.1 u <;> rfl
theorem He {N : Nat} (hN : lim < N) {b : Book} {p : Part} (hb : smB b) (hp : smP p) (hm : ∀ s ∈ b.2.1, 0 ≤ s.2.2.2.1) : aay N b p = some (lu b p) := by
 have hlim := aQ
 have h1 := hp.2.1.1
 unfold aay aeF lu
 cases decide (p.1.1 > b.2.2.2.2) with
 | true => rfl
 | false =>
  simp only [cond_false, Bool.not_false, Bool.true_and, ak (Iw hN hp), ak (J4 hN hb hp)]
  cases dC p.1 with
  | false => rfl
  | true =>
   cases hk : dG b p.1 with
   | false => rfl
   | true =>
    refine (bU p.1.2.2.2.1 _ (fun _ u => lY (bG b u.1) p.1 u) (some false) (some true) (fun g i hi => ?_) (fun g => ?_) N (by omega)).trans ?_
    ·obtain ⟨h2, h3⟩ := fU hk hi
     have hmem := lM h2 h3
     have hmost := hm _ hmem
     unfold Fa
     simp only [dlt hi, dge, gAt hi, cond_true, wrS (show i ≤ 1000000000000000000 by omega)]
     rw [ak (vZ hN hb.2.1.1 _), decide_eq_true h2, decide_eq_true h3]
     simp only [cond_true]
     change (bif decide (IntKind.i64.wrap ((bG b p.1.2.2.2.1[i].1).2.2.1 + p.1.2.2.2.1[i].2.2) > (bG b p.1.2.2.2.1[i].1).2.2.2.1) then _ else _) = _
     simp only [show b.2.1.getD (atB b p.1.2.2.2.1[i].1).toNat az = bG b p.1.2.2.2.1[i].1 from rfl]
     generalize bG b p.1.2.2.2.1[i].1 = s at hmem hmost ⊢
     generalize p.1.2.2.2.1[i] = u
     simp only [ak (lF hN (hb.2.1.2 s hmem).2.1 hp.1.1), ak (lF hN hp.1.1 (hb.2.1.2 s hmem).2.1), bne]
     have e1 : (s.2.2.2.1 == 0) = !decide (s.2.2.2.1 > 0) := by
      by_cases h : s.2.2.2.1 = 0
      ·rw [h]; rfl
      ·rw [decide_eq_true (by omega)]
       exact beq_eq_false_iff_ne.2 h
     have e2 : decide (IntKind.i64.wrap (s.2.2.1 + u.2.2) > s.2.2.2.1) = !decide (IntKind.i64.wrap (s.2.2.1 + u.2.2) ≤ s.2.2.2.1) := by
      by_cases h : IntKind.i64.wrap (s.2.2.1 + u.2.2) ≤ s.2.2.2.1
      ·rw [decide_eq_true h, decide_eq_false (by omega)]; rfl
      ·rw [decide_eq_false h, decide_eq_true (by omega)]; rfl
     rw [e1, e2]
     unfold lY
     generalize (p.1.2.1 == 2) = x0
     generalize decide (s.2.2.2.1 > 0) = x1
     generalize (p.1.2.1 == 1) = x2
     generalize (u.2.1 == 2) = x3
     generalize (u.2.1 == 1) = x4
     generalize (s.2.2.2.2.all fun x => p.1.2.2.1.contains x) = x5
     generalize (p.1.2.2.1.all fun x => s.2.2.2.2.contains x) = x6
     generalize decide (IntKind.i64.wrap (s.2.2.1 + u.2.2) ≤ s.2.2.2.1) = x7
     generalize g ((i + 1 : Nat) : Int) = gg
     cases x7 <;> cases x0 <;> cases x1 <;> cases x2 <;> cases x3 <;> cases x4 <;> cases x5 <;> cases x6 <;> rfl
    ·unfold Fa
     rw [di]; rfl
    ·rw [dF]
     cases p.1.2.2.2.1.all fun u => lY (bG b u.1) p.1 u <;> rfl
end Go.MC
namespace Go.MC
open Go.MC.F
def gJ (b : Book) (s : aP) : Bool := jh s.1 && (inB s.2.1 0 1000 && (inB s.2.2.1 0 s.2.2.2.1 && (!decide (s.2.2.2.1 > s.2.1) && (dO s.2.2.2.2 8 && !clash b s.2.2.2.2 s.2.2.2.2))))
def iT (b : Book) (i : Nat) (s : aP) : Bool := gJ b s && (i == 0 || Op.bytesLess (b.2.1.getD (i - 1) az).1 s.1)
def qF (b : Book) : Bool := !decide ((b.2.1.length : Int) > 8) && eY (iT b) 0 b.2.1
theorem ahy {N : Nat} (hN : lim < N) {b : Book} {s : aP} (hb : b.1.length ≤ 1048576) (hs : smS s) : agL N b s = some (gJ b s) := by
 have hlim := aQ
 have h1 := hs.2.1
 unfold agL ac3 gJ
 rw [ak (sG hN _)]
 simp only [ak (Je s.2.1 0 1000), ak (Je s.2.2.1 0 s.2.2.2.1), ak (nO hN (show s.2.2.2.2.length ≤ lim by omega) 8)]
 have loop : PQ N b s N 0 = some (!clash b s.2.2.2.2 s.2.2.2.2) := by
  refine (bU s.2.2.2.2 _ (fun _ x => !(s.2.2.2.2.any fun v => mi b x v)) (some false) (some true) (fun g i hi => ?_) (fun g => ?_) N (by omega)).trans ?_
  ·unfold EC
   simp only [dlt hi, dge, gAt hi, cond_true, wrS (show i ≤ 1000000000000000000 by omega)]
   rw [ak (Zy hN hb _ h1)]
   cases s.2.2.2.2.any fun v => mi b s.2.2.2.2[i] v <;> rfl
  ·unfold EC
   rw [di]; rfl
  ·rw [dF, not_any, QU]
   cases s.2.2.2.2.any fun u => s.2.2.2.2.any fun v => mi b u v <;> rfl
 rw [loop]
 cases jh s.1 <;> cases inB s.2.1 0 1000 <;> cases inB s.2.2.1 0 s.2.2.2.1 <;> cases decide (s.2.2.2.1 > s.2.1) <;> cases dO s.2.2.2.2 8 <;> rfl
def share (a b : Want) : Bool := a.2.2.2.1.any fun u => b.2.2.2.1.any fun v => u.1 == v.1
def cross (a b : Want) : Bool := (a.2.2.2.2.1.any fun x => b.2.2.2.2.1.contains x) || ((a.2.2.2.2.1.any fun x => b.2.2.2.2.2.contains x) || (a.2.2.2.2.2.any fun x => b.2.2.2.2.1.contains x))
theorem aqp {α β : Type} {l : List α} {rd : (Int → List β → Option (List β)) → Int → List β → Option (List β)} (f : α → β)
 (hstep : ∀ (g : Int → List β → Option (List β)) (i : Nat) (out : List β) (h : i < l.length), out.length ≤ i → rd g (i : Int) out = g ((i + 1 : Nat) : Int) (out ++ [f l[i]]))
 (hend : ∀ (g : Int → List β → Option (List β)) (out : List β), rd g (l.length : Int) out = some out) {N : Nat} (hN : l.length < N) : lp (fun _ _ => none) rd N 0 [] = some (l.map f) := by
 have := eQ l (fun (g : Int → List β → Option (List β)) i (d : List β) => g (i : Int) d) (fun _ _ => none) rd (fun i d x => .inl (d ++ [f x])) (fun d => some d) (fun i d => d.length ≤ i)
  (fun g i st h hi => ⟨hstep g i st h hi, fun st' hs => by cases hs; simp; omega⟩) (fun g d hd => hend g d) N hN [] (by simp)
 refine this.trans ?_
 have : ∀ (l : List α) i (d : List β), outW (fun d => some d) (dL (fun i (d : List β) x => (Sum.inl (d ++ [f x]) : List β ⊕ Option (List β))) i l d) = some (d ++ l.map f) := by
  intro l
  induction l with
  | nil => intro i d; simp [dL, outW]
  | cons x xs ih =>
   intro i d
   simp only [dL]
   rw [ih (i + 1) (d ++ [f x])]
   simp
 rw [this l 0 []]; rfl
theorem OC {N : Nat} (hN : lim < N) {w : Want} (hw : smW w) : OI N w = some (w.2.2.2.1.map (·.1)) := by
 have hlim := aQ
 have h1 := hw.2.1.1
 unfold OI ajP
 refine aqp (l := w.2.2.2.1) (fun u : Use => u.1) (fun g i out hi ho => ?_) (fun g out => ?_) (by omega)
 ·unfold Fb
  simp only [dlt hi, dge, gAt hi, cond_true, wrS (show i ≤ 1000000000000000000 by omega)]
  have : decide ((out.length + [w.2.2.2.1[i].1].length) * 16 ≤ lim) = true := decide_eq_true (by simp; omega)
  simp only [this, cond_true]
 ·unfold Fb
  rw [di]; rfl
theorem aeU (a b : Want) : ((a.2.2.2.1.map (·.1)).any fun x => (b.2.2.2.1.map (·.1)).contains x) = share a b := by
 unfold share
 rw [List.any_map]
 congr 1
 funext u
 simp only [Function.comp, List.contains_eq_any_beq, List.any_map]
 rfl
theorem ZP {N : Nat} (hN : lim < N) {a b : Want} (ha : smW a) (hb : smW b) : GY N (a.2.2.2.1.map (·.1)) (b.2.2.2.1.map (·.1)) = some (share a b) := by
 have hlim := aQ
 have h1 := ha.2.1.1
 have h2 := hb.2.1.1
 rw [zl hN (by simp; omega) (by simp; omega), aeU]
theorem LZ {N : Nat} (hN : lim < N) {a b : Want} (ha : smW a) (hb : smW b) : U0 N a b = some (cross a b) := by
 have hlim := aQ
 have h1 : a.2.2.2.2.1.length ≤ 1048576 := ha.2.2.1.1
 have h2 : a.2.2.2.2.2.length ≤ 1048576 := ha.2.2.2.1
 have h3 : b.2.2.2.2.1.length ≤ 1048576 := hb.2.2.1.1
 have h4 : b.2.2.2.2.2.length ≤ 1048576 := hb.2.2.2.1
 unfold U0 cross
 rw [ak (zl hN (show a.2.2.2.2.1.length ≤ lim by omega) (show b.2.2.2.2.1.length ≤ lim by omega))]
 simp only [ak (zl hN (show a.2.2.2.2.1.length ≤ lim by omega) (show b.2.2.2.2.2.length ≤ lim by omega)), ak (zl hN (show a.2.2.2.2.2.length ≤ lim by omega) (show b.2.2.2.2.1.length ≤ lim by omega))]
 cases (a.2.2.2.2.1.any fun x => b.2.2.2.2.1.contains x) <;> cases (a.2.2.2.2.1.any fun x => b.2.2.2.2.2.contains x) <;> rfl
theorem LX {N : Nat} (hN : lim < N) {a b : Want} (ha : smW a) (hb : smW b) : F7 N a b = some (cross a b) := by
 have hlim := aQ
 have h1 : a.2.2.2.2.1.length ≤ 1048576 := ha.2.2.1.1
 have h2 : a.2.2.2.2.2.length ≤ 1048576 := ha.2.2.2.1
 have h3 : b.2.2.2.2.1.length ≤ 1048576 := hb.2.2.1.1
 have h4 : b.2.2.2.2.2.length ≤ 1048576 := hb.2.2.2.1
 unfold F7 cross
 rw [ak (qX hN (show a.2.2.2.2.1.length ≤ lim by omega) (show b.2.2.2.2.1.length ≤ lim by omega))]
 simp only [ak (qX hN (show a.2.2.2.2.1.length ≤ lim by omega) (show b.2.2.2.2.2.length ≤ lim by omega)), ak (qX hN (show a.2.2.2.2.2.length ≤ lim by omega) (show b.2.2.2.2.1.length ≤ lim by omega))]
 cases (a.2.2.2.2.1.any fun x => b.2.2.2.2.1.contains x) <;> cases (a.2.2.2.2.1.any fun x => b.2.2.2.2.2.contains x) <;> rfl
theorem KW {N : Nat} (hN : lim < N) {a b : Want} (ha : smW a) (hb : smW b) : FW N a b = some (share a b) := by
 have hlim := aQ
 have h1 := ha.2.1.1
 have h2 := hb.2.1.1
 have inner : ∀ u : Use, abg N u b = some (b.2.2.2.1.any fun v => u.1 == v.1, b) := by
  intro u
  unfold abg f_4
  have h : f_8 N b.2.2.2.1 u = some (fP (fun v : Use => u.1 == v.1) 0 b.2.2.2.1, u) := by
   unfold f_8 aqc
   have := eQ b.2.2.2.1 (fun (g : Int → Txt → Int → Int → Option (Int × Use)) i (d : Use) => g (i : Int) d.1 d.2.1 d.2.2) (fun _ _ _ _ => none) (IQ N b.2.2.2.1 (b.2.2.2.1.length : Int)) (fun i d x => bif u.1 == x.1 then .inr (some ((i : Int), d)) else .inl d) (fun d => some (-1, d)) (fun _ d => d = u)
    (fun g i st h hi => ⟨by
     subst hi
     unfold IQ
     simp only [dlt h, dge, gAt h, cond_true, wrS (show i ≤ 1000000000000000000 by omega)]
     rw [ak (show anU N b.2.2.2.1[i] (st.1, st.2.1, st.2.2) = some (st.1 == b.2.2.2.1[i].1, st) from rfl)]
     cases st.1 == b.2.2.2.1[i].1 <;> rfl, fun st' hs => by
     subst hi
     cases hp : st.1 == b.2.2.2.1[i].1 with
     | true => rw [hp] at hs; cases hs
     | false => rw [hp] at hs; cases hs; rfl⟩) (fun g d hd => by
     subst hd
     unfold IQ
     rw [di]; rfl) N (by omega) u rfl
   refine this.trans ?_
   have : ∀ (l : List Use) i, outW (fun d => some (-1, d)) (dL (fun i (d : Use) (x : Use) => bif u.1 == x.1 then Sum.inr (some ((i : Int), d)) else Sum.inl d) i l u) = some (fP (fun v : Use => u.1 == v.1) i l, u) := by
    intro l
    induction l with
    | nil => intro i; rfl
    | cons x xs ih =>
     intro i
     simp only [dL, fP]
     cases u.1 == x.1 with
     | false => simpa using ih (i + 1)
     | true => rfl
   exact this b.2.2.2.1 0
  rw [ak (a := (b.2.2.2.1.any fun v => u.1 == v.1, u)) (by rw [ak h, fC])]
 unfold FW f_7 share
 have h : aeh N a.2.2.2.1 b = some (fP (fun u : Use => b.2.2.2.1.any fun v => u.1 == v.1) 0 a.2.2.2.1, b) := by
  unfold aeh aex
  have := eQ a.2.2.2.1 (fun (g : Int → Int → Int → List Txt → List Use → List Txt → List Txt → Option (Int × Want)) i (d : Want) => g (i : Int) d.1 d.2.1 d.2.2.1 d.2.2.2.1 d.2.2.2.2.1 d.2.2.2.2.2) (fun _ _ _ _ _ _ _ => none) (xN N a.2.2.2.1 (a.2.2.2.1.length : Int)) (fun i d x => bif b.2.2.2.1.any (fun v => x.1 == v.1) then .inr (some ((i : Int), d)) else .inl d) (fun d => some (-1, d)) (fun _ d => d = b)
   (fun g i st h hi => ⟨by
    subst hi
    unfold xN
    simp only [dlt h, dge, gAt h, cond_true, wrS (show i ≤ 1000000000000000000 by omega)]
    rw [ak (show abg N a.2.2.2.1[i] (st.1, st.2.1, st.2.2.1, st.2.2.2.1, st.2.2.2.2.1, st.2.2.2.2.2) = some (st.2.2.2.1.any fun v => a.2.2.2.1[i].1 == v.1, st) from inner _)]
    cases st.2.2.2.1.any fun v => a.2.2.2.1[i].1 == v.1 <;> rfl, fun st' hs => by
    subst hi
    cases hp : st.2.2.2.1.any (fun v => a.2.2.2.1[i].1 == v.1) with
    | true => rw [hp] at hs; cases hs
    | false => rw [hp] at hs; cases hs; rfl⟩) (fun g d hd => by
    subst hd
    unfold xN
    rw [di]; rfl) N (by omega) b rfl
  refine this.trans ?_
  have : ∀ (l : List Use) i, outW (fun d => some (-1, d)) (dL (fun i (d : Want) (x : Use) => bif b.2.2.2.1.any (fun v => x.1 == v.1) then Sum.inr (some ((i : Int), d)) else Sum.inl d) i l b) = some (fP (fun u : Use => b.2.2.2.1.any fun v => u.1 == v.1) i l, b) := by
   intro l
   induction l with
   | nil => intro i; rfl
   | cons x xs ih =>
    intro i
    simp only [dL, fP]
    cases b.2.2.2.1.any fun v => x.1 == v.1 with
    | false => simpa using ih (i + 1)
    | true => rfl
  exact this a.2.2.2.1 0
 rw [ak (a := (a.2.2.2.1.any fun u => b.2.2.2.1.any fun v => u.1 == v.1, b)) (by rw [ak h, fC])]
def jO (b : Book) (i : Nat) (p : Part) : Bool := lu b p && ((i == 0 || !decide ((b.2.2.2.1.getD (i - 1) bC).1.1 ≥ p.1.1)) && (b.2.2.2.1.take i).all fun q => !share p.1 q.1 && !cross p.1 q.1)
def jH (b : Book) : Bool := !decide ((b.2.2.2.1.length : Int) > 6) && eY (jO b) 0 b.2.2.2.1
def aS (b : Book) : Bool := ui b && (dO b.2.2.1 12 && (inB b.2.2.2.2 0 1000000 && (qF b && jH b)))
theorem adD {α : Type} {l : List α} {i k : Nat} (hk : k < (l.take i).length) : l[k]'(by simp at hk; omega) = (l.take i)[k] := by simp
theorem acF {N : Nat} (hN : lim < N) {b : Book} (hb : smB b) : akM N b = some (jH b) := by
 have hlim := aQ
 have hlb := hb.2.2.2.1
 unfold akM aho jH
 cases hlen : decide ((b.2.2.2.1.length : Int) > 6) with
 | true => rfl
 | false =>
  refine (bU b.2.2.2.1 _ (jO b) (some false) (some true) (fun g i hi => ?_) (fun g => ?_) N (by omega)).trans ?_
  ·have hp := hb.2.2.2.2 _ (List.getElem_mem hi)
   have inner : IB N g b (i : Int) b.2.2.2.1[i].1.1 b.2.2.2.1[i].1.2.1 b.2.2.2.1[i].1.2.2.1 b.2.2.2.1[i].1.2.2.2.1 b.2.2.2.1[i].1.2.2.2.2.1 b.2.2.2.1[i].1.2.2.2.2.2 N 0 =
    bif (b.2.2.2.1.take i).all (fun q => !share b.2.2.2.1[i].1 q.1 && !cross b.2.2.2.1[i].1 q.1) then g ((i + 1 : Nat) : Int) else some false := by
    have hl : (b.2.2.2.1.take i).length = i := by simp; omega
    refine (bU (b.2.2.2.1.take i) _ (fun _ q => !share b.2.2.2.1[i].1 q.1 && !cross b.2.2.2.1[i].1 q.1) (some false) (g ((i + 1 : Nat) : Int)) (fun g2 k hk => ?_) (fun g2 => ?_) N (by omega)).trans ?_
    ·have hk' : k < b.2.2.2.1.length := by simp at hk; omega
     have hq := hb.2.2.2.2 _ (List.getElem_mem hk')
     have hki : k < i := by omega
     unfold Eu
     simp only [dlt hki, dlt hk', dge, gAt hk', cond_true, wrS (show k ≤ 1000000000000000000 by omega)]
     rw [ak (show OI N (b.2.2.2.1[i].1.1, b.2.2.2.1[i].1.2.1, b.2.2.2.1[i].1.2.2.1, b.2.2.2.1[i].1.2.2.2.1, b.2.2.2.1[i].1.2.2.2.2.1, b.2.2.2.1[i].1.2.2.2.2.2) = _ from OC hN hp), ak (OC hN hq), ak (ZP hN hp hq)]
     rw [← adD hk]
     cases share b.2.2.2.1[i].1 b.2.2.2.1[k].1 with
     | true => rfl
     | false =>
      simp only [cond_false]
      rw [ak (show U0 N (b.2.2.2.1[i].1.1, b.2.2.2.1[i].1.2.1, b.2.2.2.1[i].1.2.2.1, b.2.2.2.1[i].1.2.2.2.1, b.2.2.2.1[i].1.2.2.2.2.1, b.2.2.2.1[i].1.2.2.2.2.2) b.2.2.2.1[k].1 = _ from LZ hN hp hq)]
      cases cross b.2.2.2.1[i].1 b.2.2.2.1[k].1 <;> rfl
    ·unfold Eu
     rw [hl, di, cond_false, wrS (by omega)]
    ·rw [dF]
   unfold ES jO
   simp only [dlt hi, dge, gAt hi, cond_true, wrS (show i ≤ 1000000000000000000 by omega), Jq]
   rw [ak (afQ hN hb hp)]
   cases lu b b.2.2.2.1[i] with
   | false => rfl
   | true =>
    cases h0 : i == 0 with
    | true =>
     simp only [Bool.not_true, cond_false, Bool.true_or, Bool.true_and]
     exact inner
    | false =>
     have h0' : 0 < i := by simp at h0; omega
     simp only [Bool.not_true, Bool.not_false, cond_true, cond_false, wrP (show i ≤ 1000000000000000000 by omega) h0', dge, dlt (show i - 1 < b.2.2.2.1.length by omega), rP, Bool.false_or, Bool.true_and]
     cases decide ((b.2.2.2.1.getD (i - 1) bC).1.1 ≥ b.2.2.2.1[i].1.1) with
     | true => rfl
     | false => exact inner
  ·unfold ES
   rw [di]; rfl
  ·cases eY (jO b) 0 b.2.2.2.1 <;> rfl
theorem jr {N : Nat} (hN : lim < N) {b : Book} (hb : smB b) : Jj N b = some (aS b) := by
 have hlim := aQ
 have hls := hb.2.1.1
 have hlv : b.2.2.1.length ≤ 1048576 := hb.2.2.1.1
 unfold Jj aiS aS qF
 rw [ak (akn hN b)]
 simp only [ak (nO hN (show b.2.2.1.length ≤ lim by omega) 12), ak (Je b.2.2.2.2 0 1000000)]
 have loop : Oy N b N 0 = some (eY (iT b) 0 b.2.1 && jH b) := by
  refine (bU b.2.1 _ (iT b) (some false) (some (jH b)) (fun g i hi => ?_) (fun g => ?_) N (by omega)).trans ?_
  ·unfold EE iT
   simp only [dlt hi, dge, gAt hi, cond_true, wrS (show i ≤ 1000000000000000000 by omega), Jq]
   rw [ak (ahy hN hb.1.1 (hb.2.1.2 _ (List.getElem_mem hi)))]
   cases gJ b b.2.1[i] with
   | false => rfl
   | true =>
    cases h0 : i == 0 with
    | true => rfl
    | false =>
     have h0' : 0 < i := by simp at h0; omega
     simp only [Bool.not_true, Bool.not_false, cond_true, cond_false, wrP (show i ≤ 1000000000000000000 by omega) h0', dge, dlt (show i - 1 < b.2.1.length by omega), rP, Bool.false_or, Bool.true_and]
     cases Op.bytesLess (b.2.1.getD (i - 1) az).1 b.2.1[i].1 <;> rfl
  ·unfold EE
   rw [di, cond_false, ak (acF hN hb)]
  ·cases eY (iT b) 0 b.2.1 <;> rfl
 rw [loop]
 cases ui b <;> cases decide ((b.2.1.length : Int) > 8) <;> cases dO b.2.2.1 12 <;> cases inB b.2.2.2.2 0 1000000 <;> rfl
theorem Jn {b : Book} (h : eY (iT b) 0 b.2.1 = true) : ∀ s ∈ b.2.1, 0 ≤ s.2.2.2.1 := by
 intro s hs
 obtain ⟨i, hi⟩ := List.getElem?_of_mem hs
 have := dR.1 h i s hi
 simp only [iT, gJ, inB, Bool.and_eq_true, decide_eq_true_eq] at this
 have := this.1.2.2.1
 omega
theorem jm {N : Nat} (hN : lim < N) {b : Book} (hb : smB b) : Jv N b = some (aS b) := by
 have hlim := aQ
 have hlf := hb.1.1
 have hls := hb.2.1.1
 have hlv : b.2.2.1.length ≤ 1048576 := hb.2.2.1.1
 have hlp := hb.2.2.2.1
 unfold Jv aiW aS ui qF jH
 simp only [ak (oq hN (show b.2.2.1.length ≤ lim by omega) 12), ak (tq b.2.2.2.2 0 1000000)]
 have k4 : (∀ s ∈ b.2.1, 0 ≤ s.2.2.2.1) → A8 N b (b.2.2.2.1.length : Int) N 0 = some (eY (jO b) 0 b.2.2.2.1) := by
  intro hm
  refine (bU b.2.2.2.1 _ (jO b) (some false) (some true) (fun g i hi => ?_) (fun g => ?_) N (by omega)).trans ?_
  ·have hp := hb.2.2.2.2 _ (List.getElem_mem hi)
   have inner : ∀ c6, G6 N g b (b.2.2.2.1.length : Int) (i : Int) (b.2.2.2.1.take i) ((b.2.2.2.1.take i).length : Int) b.2.2.2.1[i].1.1 b.2.2.2.1[i].1.2.1 b.2.2.2.1[i].1.2.2.1 b.2.2.2.1[i].1.2.2.2.1 b.2.2.2.1[i].1.2.2.2.2.1 b.2.2.2.1[i].1.2.2.2.2.2 c6 N 0 =
    bif (b.2.2.2.1.take i).all (fun q => !share b.2.2.2.1[i].1 q.1 && !cross b.2.2.2.1[i].1 q.1) then g ((i + 1 : Nat) : Int) else some false := by
    intro c6
    have hl : (b.2.2.2.1.take i).length = i := by simp; omega
    refine (bU (b.2.2.2.1.take i) _ (fun _ q => !share b.2.2.2.1[i].1 q.1 && !cross b.2.2.2.1[i].1 q.1) (some false) (g ((i + 1 : Nat) : Int)) (fun g2 k hk => ?_) (fun g2 => ?_) N (by omega)).trans ?_
    ·have hk' : k < b.2.2.2.1.length := by simp at hk; omega
     have hq := hb.2.2.2.2 _ (List.mem_of_mem_take (List.getElem_mem hk))
     unfold D_
     simp only [dlt hk, dge, gAt hk, cond_true, wrS (show k ≤ 1000000000000000000 by omega)]
     rw [ak (show FW N (b.2.2.2.1[i].1.1, b.2.2.2.1[i].1.2.1, b.2.2.2.1[i].1.2.2.1, b.2.2.2.1[i].1.2.2.2.1, b.2.2.2.1[i].1.2.2.2.2.1, b.2.2.2.1[i].1.2.2.2.2.2) (b.2.2.2.1.take i)[k].1 = _ from KW hN hp hq)]
     cases share b.2.2.2.1[i].1 (b.2.2.2.1.take i)[k].1 with
     | true => rfl
     | false =>
      simp only [cond_false]
      rw [ak (show F7 N (b.2.2.2.1[i].1.1, b.2.2.2.1[i].1.2.1, b.2.2.2.1[i].1.2.2.1, b.2.2.2.1[i].1.2.2.2.1, b.2.2.2.1[i].1.2.2.2.2.1, b.2.2.2.1[i].1.2.2.2.2.2) (b.2.2.2.1.take i)[k].1 = _ from LX hN hp hq)]
      cases cross b.2.2.2.1[i].1 (b.2.2.2.1.take i)[k].1 <;> rfl
    ·unfold D_
     rw [di, cond_false, wrS (by omega)]
    ·rw [dF]
   unfold Ef jO
   simp only [dlt hi, dge, gAt hi, cond_true, wrS (show i ≤ 1000000000000000000 by omega), Jq]
   have hle : decide ((i : Int) ≤ (b.2.2.2.1.length : Int)) = true := decide_eq_true (by omega)
   have hz : Int.toNat (0 : Int) = 0 := rfl
   have hi' : Int.toNat (i : Int) = i := rfl
   cases h0 : i == 0 with
   | true =>
    simp only [Bool.not_true, cond_false, Bool.true_or, Bool.true_and]
    rw [ak (He hN hb hp hm)]
    cases lu b b.2.2.2.1[i] with
    | false => rfl
    | true =>
     simp only [Bool.not_true, cond_false, hle, cond_true, hi', hz, List.drop_zero, Bool.true_and]
     exact inner _
   | false =>
    have h0' : 0 < i := by simp at h0; omega
    simp only [Bool.not_true, Bool.not_false, cond_true, cond_false, wrP (show i ≤ 1000000000000000000 by omega) h0', dge, dlt (show i - 1 < b.2.2.2.1.length by omega), rP, Bool.false_or, Bool.true_and]
    cases decide ((b.2.2.2.1.getD (i - 1) bC).1.1 ≥ b.2.2.2.1[i].1.1) with
    | true => simp
    | false =>
     rw [cond_false, ak (He hN hb hp hm)]
     cases lu b b.2.2.2.1[i] with
     | false => rfl
     | true =>
      simp only [Bool.not_true, Bool.not_false, cond_false, hle, cond_true, hi', hz, List.drop_zero, Bool.true_and]
      exact inner _
  ·unfold Ef
   rw [di]; rfl
  ·cases eY (jO b) 0 b.2.2.2.1 <;> rfl
 have k2 : zZ N b (b.2.1.length : Int) N 0 = some (eY (iT b) 0 b.2.1 && eY (jO b) 0 b.2.2.2.1) := by
  refine (bU b.2.1 _ (iT b) (some false) (A8 N b (b.2.2.2.1.length : Int) N 0) (fun g i hi => ?_) (fun g => ?_) N (by omega)).trans ?_
  ·have hs := hb.2.1.2 _ (List.getElem_mem hi)
   have h1 := hs.2.1
   unfold FO iT gJ
   simp only [dlt hi, dge, gAt hi, cond_true, wrS (show i ≤ 1000000000000000000 by omega), Jq]
   rw [ak (uo hN _)]
   have tail : (ob (jg N b.2.1[i].2.1 0 1000) false fun r => bif !r then some false else bif decide (b.2.1[i].2.2.1 < 0) then some false else bif decide (b.2.1[i].2.2.1 > b.2.1[i].2.2.2.1) then some false else bif decide (b.2.1[i].2.2.2.1 > b.2.1[i].2.1) then some false else
    ob (sN N b.2.1[i].2.2.2.2 8) false fun r => bif !r then some false else ob (Om N b b.2.1[i].2.2.2.2 b.2.1[i].2.2.2.2) false fun r => bif r then some false else g ((i + 1 : Nat) : Int)) =
    bif (inB b.2.1[i].2.1 0 1000 && (inB b.2.1[i].2.2.1 0 b.2.1[i].2.2.2.1 && (!decide (b.2.1[i].2.2.2.1 > b.2.1[i].2.1) && (dO b.2.1[i].2.2.2.2 8 && !clash b b.2.1[i].2.2.2.2 b.2.1[i].2.2.2.2)))) then g ((i + 1 : Nat) : Int) else some false := by
    simp only [ak (tq b.2.1[i].2.1 0 1000), ak (oq hN (show b.2.1[i].2.2.2.2.length ≤ lim by omega) 8), ak (Hq hN hlf h1 h1)]
    have e1 : inB b.2.1[i].2.2.1 0 b.2.1[i].2.2.2.1 = (!decide (b.2.1[i].2.2.1 < 0) && !decide (b.2.1[i].2.2.1 > b.2.1[i].2.2.2.1)) := by
     unfold inB
     congr 1
     ·by_cases h : b.2.1[i].2.2.1 < 0
      ·rw [decide_eq_true h, decide_eq_false (by omega)]; rfl
      ·rw [decide_eq_false h, decide_eq_true (by omega)]; rfl
     ·by_cases h : b.2.1[i].2.2.1 > b.2.1[i].2.2.2.1
      ·rw [decide_eq_true h, decide_eq_false (by omega)]; rfl
      ·rw [decide_eq_false h, decide_eq_true (by omega)]; rfl
    rw [e1]
    cases inB b.2.1[i].2.1 0 1000 <;> cases decide (b.2.1[i].2.2.1 < 0) <;> cases decide (b.2.1[i].2.2.1 > b.2.1[i].2.2.2.1) <;> cases decide (b.2.1[i].2.2.2.1 > b.2.1[i].2.1) <;> cases dO b.2.1[i].2.2.2.2 8 <;> cases clash b b.2.1[i].2.2.2.2 b.2.1[i].2.2.2.2 <;> rfl
   cases jh b.2.1[i].1 with
   | false => rfl
   | true =>
    cases h0 : i == 0 with
    | true =>
     simp only [Bool.not_true, cond_false, Bool.true_or, Bool.true_and, Bool.and_true]
     exact tail
    | false =>
     have h0' : 0 < i := by simp at h0; omega
     simp only [Bool.not_true, Bool.not_false, cond_true, cond_false, wrP (show i ≤ 1000000000000000000 by omega) h0', dge, dlt (show i - 1 < b.2.1.length by omega), rP, Bool.false_or, Bool.true_and]
     cases Op.bytesLess (b.2.1.getD (i - 1) az).1 b.2.1[i].1 with
     | false => simp
     | true =>
      simp only [Bool.not_true, cond_false, Bool.and_true]
      exact tail
  ·unfold FO
   rw [di]; rfl
  ·cases hs : eY (iT b) 0 b.2.1 with
   | false => rfl
   | true => rw [cond_true, k4 (Jn hs)]; rfl
 have k0 : PT N b (b.1.length : Int) N 0 = some (eY (vz b) 0 b.1 && (eY (iT b) 0 b.2.1 && eY (jO b) 0 b.2.2.2.1)) := by
  refine (bU b.1 _ (vz b) (some false) (zZ N b (b.2.1.length : Int) N 0) (fun g i hi => ?_) (fun g => ?_) N (by omega)).trans ?_
  ·unfold EO vz
   simp only [dlt hi, dge, gAt hi, cond_true, wrS (show i ≤ 1000000000000000000 by omega), Jq]
   rw [ak (uo hN _)]
   simp only [ak (uo hN b.1[i].2)]
   cases jh b.1[i].1 with
   | false => rfl
   | true =>
    cases jh b.1[i].2 with
    | false => rfl
    | true =>
     cases Op.bytesLess b.1[i].1 b.1[i].2 with
     | false => rfl
     | true =>
      cases h0 : i == 0 with
      | true => rfl
      | false =>
       have h0' : 0 < i := by simp at h0; omega
       simp only [Bool.not_true, Bool.not_false, cond_true, cond_false, wrP (show i ≤ 1000000000000000000 by omega) h0', dge, dlt (show i - 1 < b.1.length by omega), rP, Bool.false_or, Bool.true_and]
       rw [ak (aaR _ _)]
       cases GK (b.1.getD (i - 1) gX) b.1[i] <;> rfl
  ·unfold EO
   rw [di]; rfl
  ·rw [k2]
   cases eY (vz b) 0 b.1 <;> rfl
 rw [k0]
 generalize decide ((b.1.length : Int) > 12) = x0
 generalize decide ((b.2.1.length : Int) > 8) = x1
 generalize decide ((b.2.2.2.1.length : Int) > 6) = x2
 generalize dO b.2.2.1 12 = x3
 generalize inB b.2.2.2.2 0 1000000 = x4
 generalize eY (vz b) 0 b.1 = x5
 generalize eY (iT b) 0 b.2.1 = x6
 generalize eY (jO b) 0 b.2.2.2.1 = x7
 revert x0 x1 x2 x3 x4 x5 x6 x7
 decide +kernel
theorem ut {α ρ : Type} (l : List α) (rd : (Int → Option ρ) → Int → Option ρ) (p : α → Bool) (f : α → ρ) (z : ρ)
 (hstep : ∀ (g : Int → Option ρ) (i : Nat) (h : i < l.length), rd g (i : Int) = bif p l[i] then some (f l[i]) else g ((i + 1 : Nat) : Int))
 (hend : ∀ (g : Int → Option ρ), rd g (l.length : Int) = some z) (N : Nat) (hN : l.length < N) : lp (fun _ => none) rd N 0 = some (((l.find? p).map f).getD z) := by
 have := eQ l (fun (g : Int → Option ρ) i (_ : Unit) => g (i : Int)) (fun _ => none) rd (fun i _ x => bif p x then .inr (some (f x)) else .inl ()) (fun _ => some z) (fun _ _ => True)
  (fun g i st h _ => ⟨by
   rw [hstep g i h]
   cases p l[i] <;> rfl, fun _ _ => trivial⟩) (fun g _ _ => hend g) N hN () trivial
 refine this.trans ?_
 have : ∀ (l : List α) i, outW (fun _ => some z) (dL (fun i (_ : Unit) x => bif p x then Sum.inr (some (f x)) else Sum.inl ()) i l ()) = some (((l.find? p).map f).getD z) := by
  intro l
  induction l with
  | nil => intro i; rfl
  | cons x xs ih =>
   intro i
   simp only [dL, List.find?_cons]
   cases p x with
   | false => simpa using ih (i + 1)
   | true => rfl
 exact this l 0
end Go.MC
namespace Go.MC
open Go.MC.F
theorem cloneS {N : Nat} {s : List Txt} (h : s.length ≤ 1048576) : Ji N s = some s := by
 have hlim := aQ
 have h1 : decide ((0 + s.length) * 16 ≤ lim) = true := decide_eq_true (by omega)
 unfold Ji
 cases s with
 | nil => exact Be _
 | cons x xs =>
  rw [h1]
  rfl
theorem aqa {N : Nat} {s : List Use} (h : s.length ≤ 1048576) : ad7 N s = some s := by
 have hlim := aQ
 have h1 : decide ((0 + s.length) * 32 ≤ lim) = true := decide_eq_true (by omega)
 unfold ad7
 cases s with
 | nil => exact Be _
 | cons x xs =>
  rw [h1]
  rfl
theorem apQ {N : Nat} {s : List Foe} (h : s.length ≤ 1048576) : afF N s = some s := by
 have hlim := aQ
 have h1 : decide ((0 + s.length) * 32 ≤ lim) = true := decide_eq_true (by omega)
 unfold afF
 cases s with
 | nil => exact Be _
 | cons x xs =>
  rw [h1]
  rfl
theorem xm {N : Nat} {s : List Txt} (h : s.length ≤ 1048576) : Oc N s = some s := by
 have hlim := aQ
 have h1 : decide ((0 + s.length) * 16 ≤ lim) = true := decide_eq_true (by omega)
 unfold Oc
 rw [h1]; rfl
theorem ain {N : Nat} {w : Want} (h : smW w) : acE N w = some w := by
 have hlim := aQ
 have h2 := h.2.1.1
 have h1 : decide ((0 + List.length w.2.2.2.1) * 32 ≤ lim) = true := decide_eq_true (by omega)
 unfold acE
 rw [h1, cond_true, ak (xm h.1.1), ak (xm h.2.2.1.1), ak (xm h.2.2.2.1)]
 rfl
theorem yL {N : Nat} {w : Want} (h : smW w) : UC N w = some w := by
 unfold UC
 rw [ak (cloneS h.1.1), ak (aqa h.2.1.1), ak (cloneS h.2.2.1.1), ak (cloneS h.2.2.2.1)]
theorem EY {α ρ : Type} {l : List α} {rd : (Int → List α → Option ρ) → Int → List α → Option ρ} (fin : List α → Option ρ)
 (hstep : ∀ (g : Int → List α → Option ρ) (i : Nat) (out : List α) (h : i < l.length), out.length ≤ i → rd g (i : Int) out = g ((i + 1 : Nat) : Int) (out ++ [l[i]]))
 (hend : ∀ (g : Int → List α → Option ρ) (out : List α), rd g (l.length : Int) out = fin out) {N : Nat} (hN : l.length < N) : lp (fun _ _ => none) rd N 0 [] = fin l := by
 have := eQ l (fun (g : Int → List α → Option ρ) i (d : List α) => g (i : Int) d) (fun _ _ => none) rd (fun i d x => .inl (d ++ [x])) fin (fun i d => d.length ≤ i)
  (fun g i st h hi => ⟨hstep g i st h hi, fun st' hs => by cases hs; simp; omega⟩) (fun g d hd => hend g d) N hN [] (by simp)
 refine this.trans ?_
 have : ∀ (l : List α) i (d : List α), outW fin (dL (fun i (d : List α) x => (Sum.inl (d ++ [x]) : List α ⊕ Option ρ)) i l d) = fin (d ++ l) := by
  intro l
  induction l with
  | nil => intro i d; simp [dL, outW]
  | cons x xs ih =>
   intro i d
   simp only [dL]
   rw [ih (i + 1) (d ++ [x])]
   simp
 rw [this l 0 []]; rfl
theorem oU {N : Nat} (hN : lim < N) {b : Book} (hb : smB b) : yD N b = some b := by
 have hlim := aQ
 have h1 := hb.1.1
 have h2 := hb.2.1.1
 have h3 := hb.2.2.2.1
 have hg : decide ((0 + List.length b.1) * 32 ≤ lim) = true := decide_eq_true (by omega)
 unfold yD acY
 rw [hg, cond_true, ak (xm hb.2.2.1.1)]
 refine (EY (l := b.2.1) (fun x => IR N b b.2.2.1 0 ([] ++ b.1) x N 0 []) (fun g i out hi ho => ?_) (fun g out => ?_) (by omega)).trans ?_
 ·have hm : b.2.1[i].2.2.2.2.length ≤ 1048576 := (hb.2.1.2 _ (List.getElem_mem hi)).2.1
  unfold EJ
  simp only [dlt hi, dge, gAt hi, cond_true, wrS (show i ≤ 1000000000000000000 by omega), ak (xm (N := N) hm)]
  have hg : decide ((out.length + [(b.2.1[i].1, b.2.1[i].2.1, b.2.1[i].2.2.1, b.2.1[i].2.2.2.1, b.2.1[i].2.2.2.2)].length) * 64 ≤ lim) = true := decide_eq_true (by simp only [List.length_cons, List.length_nil]; omega)
  rw [hg, cond_true]
 ·unfold EJ
  rw [di]; rfl
 ·refine (EY (l := b.2.2.2.1) (fun x => some (b.1, b.2.1, b.2.2.1, x, b.2.2.2.2)) (fun g i out hi ho => ?_) (fun g out => ?_) (by omega)).trans rfl
  ·have hp : smW b.2.2.2.1[i].1 := hb.2.2.2.2 _ (List.getElem_mem hi)
   unfold En
   simp only [dlt hi, dge, gAt hi, cond_true, wrS (show i ≤ 1000000000000000000 by omega), ak (ain (N := N) hp)]
   have hg : decide ((out.length + [(b.2.2.2.1[i].1, b.2.2.2.1[i].2)].length) * 120 ≤ lim) = true := decide_eq_true (by simp only [List.length_cons, List.length_nil]; omega)
   rw [hg, cond_true]
  ·unfold En
   rw [di]; rfl
theorem xA {N : Nat} (hN : lim < N) {b : Book} (hb : smB b) : Su N b = some b := by
 have hlim := aQ
 have h1 := hb.1.1
 have h2 := hb.2.1.1
 have h3 := hb.2.2.2.1
 unfold Su aji
 rw [ak (apQ hb.1.1), ak (cloneS hb.2.2.1.1)]
 refine (EY (l := b.2.1) (fun x => Gm N b b.1 b.2.2.1 0 x (b.2.2.2.1.length : Int) N 0 []) (fun g i out hi ho => ?_) (fun g out => ?_) (by omega)).trans ?_
 ·have hm : b.2.1[i].2.2.2.2.length ≤ 1048576 := (hb.2.1.2 _ (List.getElem_mem hi)).2.1
  unfold Eg
  simp only [dlt hi, dge, gAt hi, cond_true, wrS (show i ≤ 1000000000000000000 by omega), ak (cloneS (N := N) hm)]
  have hg : decide ((out.length + [(b.2.1[i].1, b.2.1[i].2.1, b.2.1[i].2.2.1, b.2.1[i].2.2.2.1, b.2.1[i].2.2.2.2)].length) * 64 ≤ lim) = true := decide_eq_true (by simp only [List.length_cons, List.length_nil]; omega)
  rw [hg, cond_true]
 ·unfold Eg
  rw [di]; rfl
 ·refine (EY (l := b.2.2.2.1) (fun x => some (b.1, b.2.1, b.2.2.1, x, b.2.2.2.2)) (fun g i out hi ho => ?_) (fun g out => ?_) (by omega)).trans rfl
  ·have hp : smW b.2.2.2.1[i].1 := hb.2.2.2.2 _ (List.getElem_mem hi)
   unfold FP
   simp only [dlt hi, dge, gAt hi, cond_true, wrS (show i ≤ 1000000000000000000 by omega), ak (yL (N := N) hp)]
   have hg : decide ((out.length + [(b.2.2.2.1[i].1, b.2.2.2.1[i].2)].length) * 120 ≤ lim) = true := decide_eq_true (by simp only [List.length_cons, List.length_nil]; omega)
   rw [hg, cond_true]
  ·unfold FP
   rw [di]; rfl
end Go.MC
namespace Go.MC
open Go.MC.F
theorem Qy {N : Nat} {a b : List Txt} (ha : a.length ≤ 1048576) (hb : b.length ≤ 1048576) : xH N a b = some (gZ (srt (a ++ b))) := by
 have hlim := aQ
 have h1 : decide ((a.length + b.length) * 16 ≤ lim) = true := decide_eq_true (by omega)
 unfold xH
 rw [ak (cloneS ha), h1]
 rfl
def o_ (a b : List Txt) : Nat := a.length + (b.filter fun x => !a.contains x).length
theorem anl {N : Nat} (hN : lim < N) {a b : List Txt} (ha : a.length ≤ 1048576) (hb : b.length ≤ 1048576) : Rk N a b = some (o_ a b : Int) := by
 have hlim := aQ
 unfold Rk aip
 have := eQ b (fun (g : Int → Int → Option Int) i (st : Int) => g st (i : Int)) (fun _ _ => none) (yu N a b) (fun _ st x => .inl (bif a.contains x then st else st + 1)) (fun st => some st) (fun i st => 0 ≤ st ∧ st ≤ 1048576 + i)
  (fun g i st h hi => ⟨by
   unfold yu
   simp only [dlt h, dge, gAt h, cond_true, wrS (show i ≤ 1000000000000000000 by omega)]
   rw [ak (Gf hN (show a.length ≤ lim by omega) _), wr (by omega) (by omega)]
   cases a.contains b[i] <;> rfl, fun st' hs => by
   cases hs
   cases a.contains b[i]
   ·exact ⟨by simp only [cond_false]; omega, by simp only [cond_false]; omega⟩
   ·exact ⟨by simp only [cond_true]; omega, by simp only [cond_true]; omega⟩⟩) (fun g st _ => by
   unfold yu
   rw [di]; rfl) N (by omega) (a.length : Int) ⟨by omega, by omega⟩
 refine this.trans ?_
 have : ∀ (l : List Txt) i (st : Int), outW (fun st => some st) (dL (fun _ (st : Int) x => Sum.inl (bif a.contains x then st else st + 1)) i l st) = some (st + ((l.filter fun x => !a.contains x).length : Int)) := by
  intro l
  induction l with
  | nil => intro i st; simp [dL, outW]
  | cons x xs ih =>
   intro i st
   simp only [dL, List.filter_cons]
   cases a.contains x with
   | true => simpa using ih (i + 1) st
   | false =>
    simp only [cond_false, Bool.not_false, if_true, List.length_cons]
    rw [ih]
    congr 1
    omega
 rw [this, o_]
 congr 1
theorem IC (d : Array (List UInt8)) (hs : ∀ i j, i ≤ j → j < d.size → d[i]! ≤ d[j]!) : ∀ m, m ≤ d.size → (Lib.compactUpTo d m).Nodup ∧ ∀ x, x ∈ Lib.compactUpTo d m ↔ ∃ j, j < m ∧ d[j]! = x
 | 0, _ => by simp [Lib.compactUpTo]
 | m + 1, hm => by
  obtain ⟨h1, h2⟩ := IC d hs m (by omega)
  rw [Lib.compactUpTo_succ]
  cases hk : Lib.keeps d m with
  | true =>
   simp only [if_true]
   have hk' : m = 0 ∨ d[m]! ≠ d[m - 1]! := by simpa [Lib.keeps] using hk
   have hn : d[m]! ∉ Lib.compactUpTo d m := by
    intro hmem
    obtain ⟨j, hj, e⟩ := (h2 _).1 hmem
    rcases hk' with h0 | hne
    ·omega
    ·refine hne (List.le_antisymm ?_ (hs (m - 1) m (by omega) (by omega)))
     rw [← e]
     exact hs j (m - 1) (by omega) (by omega)
   refine ⟨List.nodup_append.2 ⟨h1, by simp, fun x hx y hy => ?_⟩, fun x => ?_⟩
   ·simp at hy
    subst hy
    rintro rfl
    exact hn hx
   ·rw [List.mem_append, h2, List.mem_singleton]
    constructor
    ·rintro (⟨j, hj, e⟩ | rfl)
     ·exact ⟨j, by omega, e⟩
     ·exact ⟨m, by omega, rfl⟩
    ·rintro ⟨j, hj, e⟩
     by_cases hjm : j = m
     ·subst hjm; exact .inr e.symm
     ·exact .inl ⟨j, by omega, e⟩
  | false =>
   have hk' : ¬ (m = 0 ∨ d[m]! ≠ d[m - 1]!) := by simpa [Lib.keeps] using hk
   have hm0 : m ≠ 0 := fun h => hk' (.inl h)
   have he : d[m]! = d[m - 1]! := by
    by_cases h : d[m]! = d[m - 1]!
    ·exact h
    ·exact absurd (.inr h) hk'
   simp only [Bool.false_eq_true, if_false, List.append_nil]
   refine ⟨h1, fun x => ?_⟩
   rw [h2]
   constructor
   ·rintro ⟨j, hj, e⟩
    exact ⟨j, by omega, e⟩
   ·rintro ⟨j, hj, e⟩
    by_cases hjm : j = m
    ·subst hjm
     exact ⟨j - 1, by omega, by rw [← he]; exact e⟩
    ·exact ⟨j, by omega, e⟩
theorem IX (xs : List (List UInt8)) : (srt xs).Pairwise fun a b => a ≤ b := by
 have := List.pairwise_mergeSort (le := fun (x y : List UInt8) => decide (x ≤ y)) (fun a b c h1 h2 => by simpa using List.le_trans (by simpa using h1) (by simpa using h2)) (fun a b => by simpa using List.le_total a b) xs
 exact this.imp fun h => by simpa using h
theorem G9 (xs : List (List UInt8)) : (gZ (srt xs)).Nodup ∧ ∀ x, x ∈ gZ (srt xs) ↔ x ∈ xs := by
 have hs := IX xs
 obtain ⟨h1, h2⟩ := IC (srt xs).toArray (fun i j hij hj => by
  have hj' : j < (srt xs).length := by simpa using hj
  have hi' : i < (srt xs).length := by omega
  rw [getElem!_pos _ i (by simpa using hi'), getElem!_pos _ j hj]
  simp only [List.getElem_toArray]
  rcases Nat.lt_or_ge i j with h | h
  ·exact List.pairwise_iff_getElem.1 hs i j hi' hj' h
  ·have : i = j := by omega
   subst this
   exact List.le_refl _) (srt xs).length (by simp)
 refine ⟨h1, fun x => ?_⟩
 have h3 : x ∈ gZ (srt xs) ↔ ∃ j, j < (srt xs).length ∧ (srt xs).toArray[j]! = x := h2 x
 rw [h3, ← YU (xs := xs), List.mem_iff_getElem]
 constructor
 ·rintro ⟨j, hj, e⟩
  refine ⟨j, hj, ?_⟩
  rw [getElem!_pos _ j (by simpa using hj)] at e
  simpa using e
 ·rintro ⟨j, hj, e⟩
  refine ⟨j, hj, ?_⟩
  rw [getElem!_pos _ j (by simpa using hj)]
  simpa using e
theorem Qg {a b : List Txt} (ha : a.Nodup) (hb : b.Nodup) : (gZ (srt (a ++ b))).length = o_ a b := by
 obtain ⟨h1, h2⟩ := G9 (a ++ b)
 have h3 : (a ++ b.filter fun x => !a.contains x).Nodup := by
  refine List.nodup_append.2 ⟨ha, hb.filter _, fun x hx y hy => ?_⟩
  rintro rfl
  have := (List.mem_filter.1 hy).2
  simp [hx] at this
 have := (List.perm_ext_iff_of_nodup h1 h3).2 fun x => by
  rw [h2, List.mem_append, List.mem_append, List.mem_filter]
  constructor
  ·rintro (h | h)
   ·exact .inl h
   ·by_cases hx : x ∈ a
    ·exact .inl hx
    ·exact .inr ⟨h, by simp [hx]⟩
  ·rintro (h | ⟨h, _⟩)
   ·exact .inl h
   ·exact .inr h
 rw [this.length_eq, List.length_append, o_]
theorem gY : ∀ {a b c : Txt}, Op.bytesLess a b = true → Op.bytesLess b c = true → Op.bytesLess a c = true
 | [], [], c, h, _ => by cases h
 | [], _ :: _, [], _, h => by cases h
 | [], _ :: _, _ :: _, _, _ => rfl
 | _ :: _, [], _, h, _ => by cases h
 | _ :: _, _ :: _, [], _, h => by cases h
 | x :: a, y :: b, z :: c, h, h' => by
  simp only [Op.bytesLess, Bool.or_eq_true, Bool.and_eq_true, decide_eq_true_eq, beq_iff_eq] at h h' ⊢
  rcases h with h | ⟨rfl, h⟩
  ·rcases h' with h' | ⟨rfl, h'⟩
   ·exact .inl (UInt8.lt_trans h h')
   ·exact .inl h
  ·rcases h' with h' | ⟨rfl, h'⟩
   ·exact .inl h'
   ·exact .inr ⟨rfl, gY h h'⟩
theorem uu {l : List Txt} {n : Int} (h : dO l n = true) : l.Nodup := by
 unfold dO at h
 simp only [Bool.and_eq_true] at h
 have h2 := dR.1 h.2
 have h3 : ∀ j, 0 < j → (hj : j < l.length) → Op.bytesLess (l[j - 1]'(by omega)) l[j] = true := by
  intro j h0 hj
  have := h2 j l[j] (by simp [hj])
  simp only [Nat.zero_add, Bool.and_eq_true, Jw, Bool.or_eq_true, beq_iff_eq] at this
  rcases this.2 with h | h
  ·omega
  ·rwa [List.getD_eq_getElem?_getD, List.getElem?_eq_getElem (by omega)] at h
 have h4 : ∀ (k i : Nat) (hj : i + k + 1 < l.length), Op.bytesLess (l[i]'(by omega)) l[i + k + 1] = true := by
  intro k
  induction k with
  | zero => intro i hj; exact h3 (i + 1) (by omega) hj
  | succ k ih =>
   intro i hj
   exact gY (ih i (by omega)) (h3 (i + (k + 1) + 1) (by omega) hj)
 refine List.pairwise_iff_getElem.2 fun i j hi hj hij e => ?_
 have := h4 (j - i - 1) i (by omega)
 simp only [show i + (j - i - 1) + 1 = j by omega] at this
 rw [e, ed] at this
 cases this
end Go.MC

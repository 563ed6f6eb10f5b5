/- Part 4 of the texts of the claim FnLinesCardSaid: an interpreter of the translated code over data, proved sound; the contracts of the functions; the same in plain words. -/
import Derived.Test.YtaihjhaabnfenaaGreatDoormFnLinesCardSaid2
import Derived.Test.YtaihjhaabnfenaaGreatDoormFnLinesCardSaid3
set_option linter.unusedVariables false
set_option linter.unusedSimpArgs false
set_option maxRecDepth 100000
namespace Go.MC
open Go.Proofs Go.MC.F
noncomputable section
def an0 : Nat → Option Ann := fun _ => none
noncomputable def fiO (f : Func) (a : Nat → Option Ann) : FI := ⟨f.results.toList, afo f.body, f.ntmps, a⟩
def okB (f : Func) : Bool := f.body.isSome && (!(f.name == "runtime.NumGoroutine") && oO f.ntmps (afo f.body))
theorem okO {P : Program} {f : Func} {a : Nat → Option Ann} {g : Nat} (h : P.funcs[g]? = some f) (h2 : okB f = true) : bZ P g (fiO f a) := by
 unfold okB at h2
 simp only [Bool.and_eq_true, Bool.not_eq_true'] at h2
 refine ⟨⟨f, h, ?_, rfl, rfl, h2.2.1⟩, h2.2.2⟩
 cases hb : f.body with
 | none => rw [hb] at h2; cases h2.1
 | some c => show _ = some (afo f.body); rw [hb]; rfl
abbrev k5 : List Dir := [.keep, .keep, .keep, .keep, .keep]
abbrev n0 : UT := ⟨[], [], []⟩
abbrev bxB (b : af) : Ob := .box [.v f_.slice b.1, .v b_.slice b.2.1, .v aN b.2.2.1, .v dJ.slice b.2.2.2.1, .v ak b.2.2.2.2]
abbrev bxW (w : aK) : Ob := .box [.v ak w.1, .v ak w.2.1, .v aN w.2.2.1, .v dP.slice w.2.2.2.1, .v aN w.2.2.2.2.1, .v aN w.2.2.2.2.2]
noncomputable def itO {ρ : Type} (E : Env) (f : FI) (a b : Nat) (K : X → St → Option ρ) (n : Nat) (S : St) : Option ρ := nM [] (iU f b) (code E (jl f.body a b) b) n S (fQ E f.body a b K)
theorem fx2 {t0 t1 ρ : Type} {f g : t0 → t1 → ρ} (h : ∀ a0 a1, f a0 a1 = g a0 a1) : f = g := funext fun a0 => funext (h a0)
theorem fx3 {t0 t1 t2 ρ : Type} {f g : t0 → t1 → t2 → ρ} (h : ∀ a0 a1 a2, f a0 a1 a2 = g a0 a1 a2) : f = g := funext fun a0 => funext fun a1 => funext (h a0 a1)
theorem fx4 {t0 t1 t2 t3 ρ : Type} {f g : t0 → t1 → t2 → t3 → ρ} (h : ∀ a0 a1 a2 a3, f a0 a1 a2 a3 = g a0 a1 a2 a3) : f = g := funext fun a0 => funext fun a1 => funext fun a2 => funext (h a0 a1 a2)
theorem fx5 {t0 t1 t2 t3 t4 ρ : Type} {f g : t0 → t1 → t2 → t3 → t4 → ρ} (h : ∀ a0 a1 a2 a3 a4, f a0 a1 a2 a3 a4 = g a0 a1 a2 a3 a4) : f = g := funext fun a0 => funext fun a1 => funext fun a2 => funext fun a3 => funext (h a0 a1 a2 a3)
theorem fx6 {t0 t1 t2 t3 t4 t5 ρ : Type} {f g : t0 → t1 → t2 → t3 → t4 → t5 → ρ} (h : ∀ a0 a1 a2 a3 a4 a5, f a0 a1 a2 a3 a4 a5 = g a0 a1 a2 a3 a4 a5) : f = g := funext fun a0 => funext fun a1 => funext fun a2 => funext fun a3 => funext fun a4 => funext (h a0 a1 a2 a3 a4)
theorem fx7 {t0 t1 t2 t3 t4 t5 t6 ρ : Type} {f g : t0 → t1 → t2 → t3 → t4 → t5 → t6 → ρ} (h : ∀ a0 a1 a2 a3 a4 a5 a6, f a0 a1 a2 a3 a4 a5 a6 = g a0 a1 a2 a3 a4 a5 a6) : f = g := funext fun a0 => funext fun a1 => funext fun a2 => funext fun a3 => funext fun a4 => funext fun a5 => funext (h a0 a1 a2 a3 a4 a5)
theorem fx8 {t0 t1 t2 t3 t4 t5 t6 t7 ρ : Type} {f g : t0 → t1 → t2 → t3 → t4 → t5 → t6 → t7 → ρ} (h : ∀ a0 a1 a2 a3 a4 a5 a6 a7, f a0 a1 a2 a3 a4 a5 a6 a7 = g a0 a1 a2 a3 a4 a5 a6 a7) : f = g := funext fun a0 => funext fun a1 => funext fun a2 => funext fun a3 => funext fun a4 => funext fun a5 => funext fun a6 => funext (h a0 a1 a2 a3 a4 a5 a6)
theorem fx9 {t0 t1 t2 t3 t4 t5 t6 t7 t8 ρ : Type} {f g : t0 → t1 → t2 → t3 → t4 → t5 → t6 → t7 → t8 → ρ} (h : ∀ a0 a1 a2 a3 a4 a5 a6 a7 a8, f a0 a1 a2 a3 a4 a5 a6 a7 a8 = g a0 a1 a2 a3 a4 a5 a6 a7 a8) : f = g := funext fun a0 => funext fun a1 => funext fun a2 => funext fun a3 => funext fun a4 => funext fun a5 => funext fun a6 => funext fun a7 => funext (h a0 a1 a2 a3 a4 a5 a6 a7)
theorem ayN {t0 t1 t2 t3 t4 t5 t6 t7 t8 t9 t10 ρ : Type} {f g : t0 → t1 → t2 → t3 → t4 → t5 → t6 → t7 → t8 → t9 → t10 → ρ} (h : ∀ a0 a1 a2 a3 a4 a5 a6 a7 a8 a9 a10, f a0 a1 a2 a3 a4 a5 a6 a7 a8 a9 a10 = g a0 a1 a2 a3 a4 a5 a6 a7 a8 a9 a10) : f = g := funext fun a0 => funext fun a1 => funext fun a2 => funext fun a3 => funext fun a4 => funext fun a5 => funext fun a6 => funext fun a7 => funext fun a8 => funext fun a9 => funext (h a0 a1 a2 a3 a4 a5 a6 a7 a8 a9)
theorem ayO {t0 t1 t2 t3 t4 t5 t6 t7 t8 t9 t10 t11 t12 ρ : Type} {f g : t0 → t1 → t2 → t3 → t4 → t5 → t6 → t7 → t8 → t9 → t10 → t11 → t12 → ρ} (h : ∀ a0 a1 a2 a3 a4 a5 a6 a7 a8 a9 a10 a11 a12, f a0 a1 a2 a3 a4 a5 a6 a7 a8 a9 a10 a11 a12 = g a0 a1 a2 a3 a4 a5 a6 a7 a8 a9 a10 a11 a12) : f = g := funext fun a0 => funext fun a1 => funext fun a2 => funext fun a3 => funext fun a4 => funext fun a5 => funext fun a6 => funext fun a7 => funext fun a8 => funext fun a9 => funext fun a10 => funext fun a11 => funext (h a0 a1 a2 a3 a4 a5 a6 a7 a8 a9 a10 a11)
theorem ayM {t0 t1 t2 t3 t4 t5 t6 t7 t8 t9 t10 t11 t12 t13 t14 ρ : Type} {f g : t0 → t1 → t2 → t3 → t4 → t5 → t6 → t7 → t8 → t9 → t10 → t11 → t12 → t13 → t14 → ρ} (h : ∀ a0 a1 a2 a3 a4 a5 a6 a7 a8 a9 a10 a11 a12 a13 a14, f a0 a1 a2 a3 a4 a5 a6 a7 a8 a9 a10 a11 a12 a13 a14 = g a0 a1 a2 a3 a4 a5 a6 a7 a8 a9 a10 a11 a12 a13 a14) : f = g := funext fun a0 => funext fun a1 => funext fun a2 => funext fun a3 => funext fun a4 => funext fun a5 => funext fun a6 => funext fun a7 => funext fun a8 => funext fun a9 => funext fun a10 => funext fun a11 => funext fun a12 => funext fun a13 => funext (h a0 a1 a2 a3 a4 a5 a6 a7 a8 a9 a10 a11 a12 a13)
theorem ayP {t0 t1 t2 t3 t4 t5 t6 t7 t8 t9 t10 t11 t12 t13 t14 t15 t16 ρ : Type} {f g : t0 → t1 → t2 → t3 → t4 → t5 → t6 → t7 → t8 → t9 → t10 → t11 → t12 → t13 → t14 → t15 → t16 → ρ} (h : ∀ a0 a1 a2 a3 a4 a5 a6 a7 a8 a9 a10 a11 a12 a13 a14 a15 a16, f a0 a1 a2 a3 a4 a5 a6 a7 a8 a9 a10 a11 a12 a13 a14 a15 a16 = g a0 a1 a2 a3 a4 a5 a6 a7 a8 a9 a10 a11 a12 a13 a14 a15 a16) : f = g := funext fun a0 => funext fun a1 => funext fun a2 => funext fun a3 => funext fun a4 => funext fun a5 => funext fun a6 => funext fun a7 => funext fun a8 => funext fun a9 => funext fun a10 => funext fun a11 => funext fun a12 => funext fun a13 => funext fun a14 => funext fun a15 => funext (h a0 a1 a2 a3 a4 a5 a6 a7 a8 a9 a10 a11 a12 a13 a14 a15)
abbrev kp : Dir := .keep
abbrev vv (t : Ty) (x : t.den) : AV := .w (.one (.v t x))
abbrev vb (n : Nat) : AV := .w (.one (.pb n 0))
abbrev va (n : Nat) : AV := .w (.one (.arr n))
def aqE : Nat → Option Ann
 | 0 => some ⟨⟨[(0, kp), (1, kp), (5, .own 700005 9 Ty.str), (6, kp), (7, kp)], [], []⟩, [(0, ⟨[(0, kp), (5, .own 700005 9 Ty.str), (6, kp)], [], []⟩)], n0⟩
 | _ => none
noncomputable def Ae := fiO Tryz.f8 aqE
theorem apP : bZ Tryz.prog 8 Ae := okO Tryz.func8 (by kernel_rfl)
def DK (N : Nat) : List (Nat × ax) := []
def zO : ax := bJ [.d (.str) false, .d di false] true [.d aN false]
noncomputable def auL (N : Nat) : Env := dN (az aS) (aZ (DK N)) bu N Ae []
noncomputable def asH := (eP (az aS) Ae.res (kT (a_ [aN]) zO []))
noncomputable def aan (N : Nat) (n : Nat) : St → Option (List Txt) := itO (auL N) Ae 0 0 asH n
noncomputable def TQ (N : Nat) (s : Txt) (yB : Int) (n : Nat) : Int → Int → (List Txt) → Option (List Txt) := fun eC i7 zA => aan N n ⟨[(0, vv Ty.str s), (1, vv di yB), (5, va 700005), (6, vv ak eC), (7, vv ak i7)], [(700005, .arr 9 Ty.str zA)]⟩
theorem aeB (N : Nat) : TQ N = Bv N := fx3 fun s yB => bK (by kernel_rfl) fun n => by
 show _ = uX N s yB (TQ N s yB n)
 kernel_rfl
theorem akn (N : Nat) (s : Txt) (yB : Int) : bg (a_ [aN]) (az aS) (aZ (DK N)) bu N Ae zO [⟨.str, s⟩, ⟨di, yB⟩] = F.Oa N s yB := by
 show _ = F.apK N (F.Bv N) s yB
 rw [← aeB N]
 kernel_rfl
def EN (N : Nat) : ax := aQ zO.ps zO.fz zO.rs [aN] (F.Oa N)
theorem KR (N : Nat) : ay Tryz.prog 8 (EN N) := aU (N := N) bz mixed (ah (l := DK N) trivial) (aO _) apP (by decide) (akn N)
noncomputable def agl := fiO Tryz.f62 an0
theorem avj : bZ Tryz.prog 62 agl := okO Tryz.func62 (by kernel_rfl)
def V6 (N : Nat) : List (Nat × ax) := []
def Qh : ax := bJ [.d aN false] false [.own aN false [(9, none)]]
theorem aqz (N : Nat) (list : List Txt) : bg (a_ [aN]) (az aS) (aZ (V6 N)) bu N agl Qh [⟨aN, list⟩] = F.X5 N list := by kernel_rfl
def Yl (N : Nat) : ax := aQ Qh.ps Qh.fz Qh.rs [aN] (F.X5 N)
theorem aay (N : Nat) : ay Tryz.prog 62 (Yl N) := aU (N := N) bz mixed (ah (l := V6 N) trivial) (aO _) avj (by decide) (aqz N)
noncomputable def agS := fiO Tryz.f60 an0
theorem arp : bZ Tryz.prog 60 agS := okO Tryz.func60 (by kernel_rfl)
def Wx (N : Nat) : List (Nat × ax) := [(62, Yl N)]
def PN : ax := bJ [.d bQ true] false [.own bQ true [(9, none), (101, none), (9, none), (9, none)]]
theorem anX (N : Nat) (w : aK) : bg (a_ [bQ]) (az aS) (aZ (Wx N)) bu N agS PN [⟨bQ, w⟩] = F.abf N w := by kernel_rfl
def Fq (N : Nat) : ax := aQ PN.ps PN.fz PN.rs [bQ] (F.abf N)
theorem IV (N : Nat) : ay Tryz.prog 60 (Fq N) := aU (N := N) bz mixed (ah (l := Wx N) (aT rfl (aay N) trivial)) (aO _) arp (by decide) (anX N)
def ar6 : Nat → Option Ann
 | 0 => some ⟨⟨[(1, kp), (2, kp), (3, kp), (4, kp)], [(1, k5), (2, k5), (3, [.own 1000300 44 f_, .dow 1000301 46 [9] b_, .own 1000302 9 Ty.str, kp, kp])], []⟩, [(0, ⟨[(1, kp), (2, kp), (3, kp)], [(1, k5), (2, k5), (3, [.own 1000300 44 f_, .dow 1000301 46 [9] b_, .own 1000302 9 Ty.str, kp, kp])], []⟩)], n0⟩
 | 2 => some ⟨⟨[(1, kp), (2, kp), (3, kp), (6, kp)], [(1, k5), (2, k5), (3, [.own 1000300 44 f_, .dow 1000301 46 [9] b_, .own 1000302 9 Ty.str, .dow 1000303 91 [9, 101, 9, 9] dJ, kp])], []⟩, [(2, ⟨[(2, kp), (3, kp)], [(2, k5), (3, [.own 1000300 44 f_, .dow 1000301 46 [9] b_, .own 1000302 9 Ty.str, .dow 1000303 91 [9, 101, 9, 9] dJ, kp])], []⟩)], n0⟩
 | _ => none
noncomputable def Bd := fiO Tryz.f25 ar6
theorem asx : bZ Tryz.prog 25 Bd := okO Tryz.func25 (by kernel_rfl)
def L6 (N : Nat) : List (Nat × ax) := [(62, Yl N), (60, Fq N)]
def Ij : ax := bJ [.d aV true] false [.own aV true [(44, none), (46, (some [9])), (9, none), (91, (some [9, 101, 9, 9]))]]
noncomputable def aoj (N : Nat) : Env := dN (az aS) (aZ (L6 N)) bu N Bd []
noncomputable def amm := (eP (az aS) Bd.res (kT (a_ [aV]) Ij []))
noncomputable def acK (N : Nat) (n : Nat) : St → Option af := itO (aoj N) Bd 0 2 amm n
noncomputable def J9 (N : Nat) (b : af) (r : List Txt) (dA : Int) (fA : List Foe) (kA : List bi) (n : Nat) : Int → (List dm) → Option af := fun i6 fC => acK N n ⟨[(1, vb 1), (2, vb 2), (3, vb 3), (6, vv ak i6)], [(1, bxB b), (2, .box [.emp, .emp, .emp, .emp, .v ak dA]), (3, .box [.arr 1000300, .arr 1000301, .arr 1000302, .arr 1000303, .v ak b.2.2.2.2]), (1000300, .arr 44 f_ fA), (1000301, .arr 46 b_ kA (Dp.yes [9])), (1000302, .arr 9 Ty.str r), (1000303, .arr 91 dJ fC (Dp.yes [9, 101, 9, 9]))]⟩
theorem aiv (N : Nat) : J9 N = TR N := fx6 fun b r dA fA kA => bK (by kernel_rfl) fun n => by
 show _ = OB N b r dA fA kA (J9 N b r dA fA kA n)
 kernel_rfl
noncomputable def aeu (N : Nat) (n : Nat) : St → Option af := itO (aoj N) Bd 0 0 amm n
noncomputable def XP (N : Nat) (b : af) (r : List Txt) (dA : Int) (fA : List Foe) (n : Nat) : Int → (List bi) → Option af := fun i4 kA => aeu N n ⟨[(1, vb 1), (2, vb 2), (3, vb 3), (4, vv ak i4)], [(1, bxB b), (2, .box [.emp, .emp, .emp, .emp, .v ak dA]), (3, .box [.arr 1000300, .arr 1000301, .arr 1000302, .emp, .v ak b.2.2.2.2]), (1000300, .arr 44 f_ fA), (1000301, .arr 46 b_ kA (Dp.yes [9])), (1000302, .arr 9 Ty.str r)]⟩
theorem akR (N : Nat) : XP N = afa N := fx5 fun b r dA fA => bK (by kernel_rfl) fun n => by
 show _ = PY N (TR N) b r dA fA (XP N b r dA fA n)
 rw [show TR N = J9 N from (aiv N).symm]
 kernel_rfl
theorem ap8 (N : Nat) (b : af) : bg (a_ [aV]) (az aS) (aZ (L6 N)) bu N Bd Ij [⟨aV, b⟩] = F.F7 N b := by
 show _ = F.aoP N (F.afa N) b
 rw [← akR N]
 kernel_rfl
def xk (N : Nat) : ax := aQ Ij.ps Ij.fz Ij.rs [aV] (F.F7 N)
theorem uQ (N : Nat) : ay Tryz.prog 25 (xk N) := aU (N := N) bz mixed (ah (l := L6 N) (aT rfl (aay N) (aT rfl (IV N) trivial))) (aO _) asx (by decide) (ap8 N)
noncomputable def acH := fiO Tryz.f65 an0
theorem amv : bZ Tryz.prog 65 acH := okO Tryz.func65 (by kernel_rfl)
def QR (N : Nat) : List (Nat × ax) := []
def Iu : ax := bJ [.d ak false, .d ak false, .d ak false] false [.d (.bool) false]
theorem ah4 (N : Nat) (n : Int) (low : Int) (high : Int) : bg (a_ [.bool]) (az aS) (aZ (QR N)) bu N acH Iu [⟨ak, n⟩, ⟨ak, low⟩, ⟨ak, high⟩] = F.kR N n low high := by kernel_rfl
def oz (N : Nat) : ax := aQ Iu.ps Iu.fz Iu.rs [.bool] (F.kR N)
theorem nK (N : Nat) : ay Tryz.prog 65 (oz N) := aU (N := N) bz mixed (ah (l := QR N) trivial) (aO _) amv (by decide) (ah4 N)
def atg : Nat → Option Ann
 | 0 => some ⟨⟨[(0, kp), (3, kp)], [], []⟩, [(0, n0)], ⟨[(2, kp)], [], []⟩⟩
 | _ => none
noncomputable def Ed := fiO Tryz.f140 atg
theorem auF : bZ Tryz.prog 140 Ed := okO Tryz.func140 (by kernel_rfl)
def J3 (N : Nat) : List (Nat × ax) := [(65, oz N)]
def EI : ax := bJ [.d (.str) false] false [.d (.bool) false]
noncomputable def awp (N : Nat) : Env := dN (az aS) (aZ (J3 N)) bu N Ed []
noncomputable def ayb := (eP (az aS) Ed.res (kT (a_ [.bool]) EI []))
noncomputable def acZ (N : Nat) (n : Nat) : St → Option Bool := itO (awp N) Ed 0 0 ayb n
noncomputable def Wn (N : Nat) (s : Txt) (n : Nat) : Int → Option Bool := fun i3 => acZ N n ⟨[(0, vv Ty.str s), (3, vv ak i3)], []⟩
theorem akx (N : Nat) : Wn N = aeb N := fx2 fun s => bK (by kernel_rfl) fun n => by
 show _ = OX N s (Wn N s n)
 kernel_rfl
theorem anL (N : Nat) (s : Txt) : bg (a_ [.bool]) (az aS) (aZ (J3 N)) bu N Ed EI [⟨.str, s⟩] = F.Yw N s := by
 show _ = F.alm N (F.aeb N) s
 rw [← akx N]
 kernel_rfl
def FB (N : Nat) : ax := aQ EI.ps EI.fz EI.rs [.bool] (F.Yw N)
theorem I7 (N : Nat) : ay Tryz.prog 140 (FB N) := aU (N := N) bz mixed (ah (l := J3 N) (aT rfl (nK N) trivial)) (aO _) auF (by decide) (anL N)
def aud : Nat → Option Ann
 | 0 => some ⟨⟨[(1, kp), (3, kp)], [(1, k5)], []⟩, [(0, n0)], ⟨[(2, kp)], [], []⟩⟩
 | _ => none
noncomputable def Eg := fiO Tryz.f96 aud
theorem avg : bZ Tryz.prog 96 Eg := okO Tryz.func96 (by kernel_rfl)
def JV (N : Nat) : List (Nat × ax) := [(140, FB N)]
def FO : ax := bJ [.d aV true] false [.d (.bool) false]
noncomputable def av4 (N : Nat) : Env := dN (az aS) (aZ (JV N)) bu N Eg []
noncomputable def awO := (eP (az aS) Eg.res (kT (a_ [.bool]) FO []))
noncomputable def acS (N : Nat) (n : Nat) : St → Option Bool := itO (av4 N) Eg 0 0 awO n
noncomputable def Vr (N : Nat) (b : af) (n : Nat) : Int → Option Bool := fun i3 => acS N n ⟨[(1, vb 1), (3, vv ak i3)], [(1, bxB b)]⟩
theorem aif (N : Nat) : Vr N = afv N := fx2 fun b => bK (by kernel_rfl) fun n => by
 show _ = O6 N b (Vr N b n)
 kernel_rfl
theorem ak7 (N : Nat) (b : af) : bg (a_ [.bool]) (az aS) (aZ (JV N)) bu N Eg FO [⟨aV, b⟩] = F.aoT N b := by
 show _ = F.amD N (F.afv N) b
 rw [← aif N]
 kernel_rfl
def agH (N : Nat) : ax := aQ FO.ps FO.fz FO.rs [.bool] (F.aoT N)
theorem aqP (N : Nat) : ay Tryz.prog 96 (agH N) := aU (N := N) bz mixed (ah (l := JV N) (aT rfl (I7 N) trivial)) (aO _) avg (by decide) (ak7 N)
def au2 : Nat → Option Ann
 | 0 => some ⟨⟨[(0, kp), (5, kp)], [], []⟩, [(0, n0)], ⟨[(4, kp)], [], []⟩⟩
 | _ => none
noncomputable def FW := fiO Tryz.f97 au2
theorem avu : bZ Tryz.prog 97 FW := okO Tryz.func97 (by kernel_rfl)
def KU (N : Nat) : List (Nat × ax) := [(140, FB N)]
def EC : ax := bJ [.d aN false, .d ak false] false [.d (.bool) false]
noncomputable def awm (N : Nat) : Env := dN (az aS) (aZ (KU N)) bu N FW []
noncomputable def axZ := (eP (az aS) FW.res (kT (a_ [.bool]) EC []))
noncomputable def ac0 (N : Nat) (n : Nat) : St → Option Bool := itO (awm N) FW 0 0 axZ n
noncomputable def Xi (N : Nat) (list : List Txt) (n : Nat) : Int → Option Bool := fun i5 => ac0 N n ⟨[(0, vv aN list), (5, vv ak i5)], []⟩
theorem akK (N : Nat) : Xi N = ac3 N := fx2 fun list => bK (by kernel_rfl) fun n => by
 show _ = Pm N list (Xi N list n)
 kernel_rfl
theorem aqJ (N : Nat) (list : List Txt) (most : Int) : bg (a_ [.bool]) (az aS) (aZ (KU N)) bu N FW EC [⟨aN, list⟩, ⟨ak, most⟩] = F.U0 N list most := by
 show _ = F.aqe N (F.ac3 N) list most
 rw [← akK N]
 kernel_rfl
def Ov (N : Nat) : ax := aQ EC.ps EC.fz EC.rs [.bool] (F.U0 N)
theorem SQ (N : Nat) : ay Tryz.prog 97 (Ov N) := aU (N := N) bz mixed (ah (l := KU N) (aT rfl (I7 N) trivial)) (aO _) avu (by decide) (aqJ N)
def au5 : Nat → Option Ann
 | 0 => some ⟨⟨[(1, kp), (2, kp), (3, kp), (7, kp)], [(3, k5)], []⟩, [(0, n0)], ⟨[(6, kp)], [], []⟩⟩
 | _ => none
noncomputable def FD := fiO Tryz.f174 au5
theorem auS : bZ Tryz.prog 174 FD := okO Tryz.func174 (by kernel_rfl)
def KD (N : Nat) : List (Nat × ax) := []
def GZ : ax := bJ [.d aV true, .d (.str) false, .d (.str) false] false [.d (.bool) false]
noncomputable def axT (N : Nat) : Env := dN (az aS) (aZ (KD N)) bu N FD []
noncomputable def ax_ := (eP (az aS) FD.res (kT (a_ [.bool]) GZ []))
noncomputable def afH (N : Nat) (n : Nat) : St → Option Bool := itO (axT N) FD 0 0 ax_ n
noncomputable def U9 (N : Nat) (b : af) (x : Txt) (y : Txt) (n : Nat) : Int → Option Bool := fun i7 => afH N n ⟨[(1, vv Ty.str x), (2, vv Ty.str y), (3, vb 3), (7, vv ak i7)], [(3, bxB b)]⟩
theorem ajd (N : Nat) : U9 N = aee N := fx4 fun b x y => bK (by kernel_rfl) fun n => by
 show _ = Qx N b x y (U9 N b x y n)
 kernel_rfl
theorem aoA (N : Nat) (b : af) (x : Txt) (y : Txt) : bg (a_ [.bool]) (az aS) (aZ (KD N)) bu N FD GZ [⟨aV, b⟩, ⟨.str, x⟩, ⟨.str, y⟩] = F.ak3 N b x y := by
 show _ = F.amS N (F.aee N) b x y
 rw [← ajd N]
 kernel_rfl
def ahG (N : Nat) : ax := aQ GZ.ps GZ.fz GZ.rs [.bool] (F.ak3 N)
theorem aor (N : Nat) : ay Tryz.prog 174 (ahG N) := aU (N := N) bz mixed (ah (l := KD N) trivial) (aO _) auS (by decide) (aoA N)
def asO : Nat → Option Ann
 | 0 => some ⟨⟨[(1, kp), (2, kp), (3, kp), (7, kp)], [(3, k5)], []⟩, [(0, n0)], ⟨[(6, kp)], [], []⟩⟩
 | _ => none
noncomputable def Ie := fiO Tryz.f141 asO
theorem atm : bZ Tryz.prog 141 Ie := okO Tryz.func141 (by kernel_rfl)
def K_ (N : Nat) : List (Nat × ax) := [(174, ahG N)]
def Iq : ax := bJ [.d aV true, .d (.str) false, .d aN false] false [.d (.bool) false]
noncomputable def axp (N : Nat) : Env := dN (az aS) (aZ (K_ N)) bu N Ie []
noncomputable def axO := (eP (az aS) Ie.res (kT (a_ [.bool]) Iq []))
noncomputable def ae_ (N : Nat) (n : Nat) : St → Option Bool := itO (axp N) Ie 0 0 axO n
noncomputable def WS (N : Nat) (b : af) (stuff : Txt) (may : List Txt) (n : Nat) : Int → Option Bool := fun i7 => ae_ N n ⟨[(1, vv Ty.str stuff), (2, vv aN may), (3, vb 3), (7, vv ak i7)], [(3, bxB b)]⟩
theorem aiS (N : Nat) : WS N = afh N := fx4 fun b stuff may => bK (by kernel_rfl) fun n => by
 show _ = Ox N b stuff may (WS N b stuff may n)
 kernel_rfl
theorem amb (N : Nat) (b : af) (stuff : Txt) (may : List Txt) : bg (a_ [.bool]) (az aS) (aZ (K_ N)) bu N Ie Iq [⟨aV, b⟩, ⟨.str, stuff⟩, ⟨aN, may⟩] = F.aju N b stuff may := by
 show _ = F.aoa N (F.afh N) b stuff may
 rw [← aiS N]
 kernel_rfl
def Y1 (N : Nat) : ax := aQ Iq.ps Iq.fz Iq.rs [.bool] (F.aju N)
theorem aab (N : Nat) : ay Tryz.prog 141 (Y1 N) := aU (N := N) bz mixed (ah (l := K_ N) (aT rfl (aor N) trivial)) (aO _) atm (by decide) (amb N)
def asc : Nat → Option Ann
 | 0 => some ⟨⟨[(2, kp), (3, kp), (5, kp)], [(2, k5), (3, k5)], []⟩, [(0, n0)], ⟨[(4, kp)], [], []⟩⟩
 | _ => none
noncomputable def FV := fiO Tryz.f98 asc
theorem asu : bZ Tryz.prog 98 FV := okO Tryz.func98 (by kernel_rfl)
def LD (N : Nat) : List (Nat × ax) := [(140, FB N), (65, oz N), (97, Ov N), (141, Y1 N)]
def DX : ax := bJ [.d aV true, .d b_ true] false [.d (.bool) false]
noncomputable def ax1 (N : Nat) : Env := dN (az aS) (aZ (LD N)) bu N FV []
noncomputable def ax2 := (eP (az aS) FV.res (kT (a_ [.bool]) DX []))
noncomputable def afE (N : Nat) (n : Nat) : St → Option Bool := itO (ax1 N) FV 0 0 ax2 n
noncomputable def Vd (N : Nat) (b : af) (s : bi) (n : Nat) : Int → Option Bool := fun i5 => afE N n ⟨[(2, vb 2), (3, vb 3), (5, vv ak i5)], [(2, bxB b), (3, .box [.v Ty.str s.1, .v ak s.2.1, .v ak s.2.2.1, .v ak s.2.2.2.1, .v aN s.2.2.2.2])]⟩
theorem aiE (N : Nat) : Vd N = YG N := fx3 fun b s => bK (by kernel_rfl) fun n => by
 show _ = Qs N b s (Vd N b s n)
 kernel_rfl
theorem als (N : Nat) (b : af) (s : bi) : bg (a_ [.bool]) (az aS) (aZ (LD N)) bu N FV DX [⟨aV, b⟩, ⟨b_, s⟩] = F.alz N b s := by
 show _ = F.amL N (F.YG N) b s
 rw [← aiE N]
 kernel_rfl
def agf (N : Nat) : ax := aQ DX.ps DX.fz DX.rs [.bool] (F.alz N)
theorem aqp (N : Nat) : ay Tryz.prog 98 (agf N) := aU (N := N) bz mixed (ah (l := LD N) (aT rfl (I7 N) (aT rfl (nK N) (aT rfl (SQ N) (aT rfl (aab N) trivial))))) (aO _) asu (by decide) (als N)
def arX : Nat → Option Ann
 | 0 => some ⟨⟨[(1, kp), (3, kp)], [(1, [kp, kp, kp, kp, kp, kp])], []⟩, [(0, n0)], ⟨[(2, kp)], [], []⟩⟩
 | _ => none
noncomputable def GH := fiO Tryz.f143 arX
theorem atV : bZ Tryz.prog 143 GH := okO Tryz.func143 (by kernel_rfl)
def Ns (N : Nat) : List (Nat × ax) := [(140, FB N), (65, oz N)]
def EU : ax := bJ [.d bQ true] false [.d (.bool) false]
noncomputable def awy (N : Nat) : Env := dN (az aS) (aZ (Ns N)) bu N GH []
noncomputable def awt := (eP (az aS) GH.res (kT (a_ [.bool]) EU []))
noncomputable def ado (N : Nat) (n : Nat) : St → Option Bool := itO (awy N) GH 0 0 awt n
noncomputable def Wy (N : Nat) (w : aK) (n : Nat) : Int → Option Bool := fun i3 => ado N n ⟨[(1, vb 1), (3, vv ak i3)], [(1, bxW w)]⟩
theorem ajU (N : Nat) : Wy N = afr N := fx2 fun w => bK (by kernel_rfl) fun n => by
 show _ = O_ N w (Wy N w n)
 kernel_rfl
theorem aoK (N : Nat) (w : aK) : bg (a_ [.bool]) (az aS) (aZ (Ns N)) bu N GH EU [⟨bQ, w⟩] = F.aqg N w := by
 show _ = F.anh N (F.afr N) w
 rw [← ajU N]
 kernel_rfl
def agd (N : Nat) : ax := aQ EU.ps EU.fz EU.rs [.bool] (F.aqg N)
theorem al8 (N : Nat) : ay Tryz.prog 143 (agd N) := aU (N := N) bz mixed (ah (l := Ns N) (aT rfl (I7 N) (aT rfl (nK N) trivial))) (aO _) atV (by decide) (aoK N)
def am3 : Nat → Option Ann
 | 0 => some ⟨⟨[(0, kp), (1, kp), (5, kp)], [], []⟩, [(0, n0)], ⟨[(4, kp)], [], []⟩⟩
 | _ => none
noncomputable def zg := fiO Tryz.f72 am3
theorem apA : bZ Tryz.prog 72 zg := okO Tryz.func72 (by kernel_rfl)
def Dh (N : Nat) : List (Nat × ax) := []
def zS : ax := bJ [.d aN false, .d (.str) false] false [.d (.bool) false]
noncomputable def arL (N : Nat) : Env := dN (az aS) (aZ (Dh N)) bu N zg []
noncomputable def arw := (eP (az aS) zg.res (kT (a_ [.bool]) zS []))
noncomputable def aaX (N : Nat) (n : Nat) : St → Option Bool := itO (arL N) zg 0 0 arw n
noncomputable def Ux (N : Nat) (list : List Txt) (name : Txt) (n : Nat) : Int → Option Bool := fun i5 => aaX N n ⟨[(0, vv aN list), (1, vv Ty.str name), (5, vv ak i5)], []⟩
theorem afx (N : Nat) : Ux N = Ym N := fx3 fun list name => bK (by kernel_rfl) fun n => by
 show _ = Jd N list name (Ux N list name n)
 kernel_rfl
theorem ajJ (N : Nat) (list : List Txt) (name : Txt) : bg (a_ [.bool]) (az aS) (aZ (Dh N)) bu N zg zS [⟨aN, list⟩, ⟨.str, name⟩] = F.xw N list name := by
 show _ = F.ady N (F.Ym N) list name
 rw [← afx N]
 kernel_rfl
def oM (N : Nat) : ax := aQ zS.ps zS.fz zS.rs [.bool] (F.xw N)
theorem mX (N : Nat) : ay Tryz.prog 72 (oM N) := aU (N := N) bz mixed (ah (l := Dh N) trivial) (aO _) apA (by decide) (ajJ N)
def asb : Nat → Option Ann
 | 0 => some ⟨⟨[(0, kp), (1, kp), (5, kp)], [], []⟩, [(0, n0)], ⟨[(4, kp)], [], []⟩⟩
 | _ => none
noncomputable def Iy := fiO Tryz.f103 asb
theorem auB : bZ Tryz.prog 103 Iy := okO Tryz.func103 (by kernel_rfl)
def JH (N : Nat) : List (Nat × ax) := [(72, oM N)]
def Ho : ax := bJ [.d aN false, .d aN false] false [.d (.bool) false]
noncomputable def awR (N : Nat) : Env := dN (az aS) (aZ (JH N)) bu N Iy []
noncomputable def awN := (eP (az aS) Iy.res (kT (a_ [.bool]) Ho []))
noncomputable def adf (N : Nat) (n : Nat) : St → Option Bool := itO (awR N) Iy 0 0 awN n
noncomputable def WP (N : Nat) (a : List Txt) (b : List Txt) (n : Nat) : Int → Option Bool := fun i5 => adf N n ⟨[(0, vv aN a), (1, vv aN b), (5, vv ak i5)], []⟩
theorem ajQ (N : Nat) : WP N = adc N := fx3 fun a b => bK (by kernel_rfl) fun n => by
 show _ = O8 N a b (WP N a b n)
 kernel_rfl
theorem apy (N : Nat) (a : List Txt) (b : List Txt) : bg (a_ [.bool]) (az aS) (aZ (JH N)) bu N Iy Ho [⟨aN, a⟩, ⟨aN, b⟩] = F.QO N a b := by
 show _ = F.api N (F.adc N) a b
 rw [← ajQ N]
 kernel_rfl
def Hf (N : Nat) : ax := aQ Ho.ps Ho.fz Ho.rs [.bool] (F.QO N)
theorem Il (N : Nat) : ay Tryz.prog 103 (Hf N) := aU (N := N) bz mixed (ah (l := JH N) (aT rfl (mX N) trivial)) (aO _) auB (by decide) (apy N)
noncomputable def agb := fiO Tryz.f100 an0
theorem ars : bZ Tryz.prog 100 agb := okO Tryz.func100 (by kernel_rfl)
def VV (N : Nat) : List (Nat × ax) := [(65, oz N), (143, agd N), (97, Ov N), (103, Hf N)]
def Qy : ax := bJ [.d bQ true] false [.d (.bool) false]
theorem aoI (N : Nat) (w : aK) : bg (a_ [.bool]) (az aS) (aZ (VV N)) bu N agb Qy [⟨bQ, w⟩] = F.aii N w := by kernel_rfl
def Yb (N : Nat) : ax := aQ Qy.ps Qy.fz Qy.rs [.bool] (F.aii N)
theorem aca (N : Nat) : ay Tryz.prog 100 (Yb N) := aU (N := N) bz mixed (ah (l := VV N) (aT rfl (nK N) (aT rfl (al8 N) (aT rfl (SQ N) (aT rfl (Il N) trivial))))) (aO _) ars (by decide) (aoI N)
def aoV : Nat → Option Ann
 | 0 => some ⟨⟨[(1, kp), (2, kp), (5, kp)], [(2, k5)], []⟩, [(0, n0)], ⟨[(4, kp)], [], []⟩⟩
 | _ => none
noncomputable def Aw := fiO Tryz.f70 aoV
theorem amT : bZ Tryz.prog 70 Aw := okO Tryz.func70 (by kernel_rfl)
def Dw (N : Nat) : List (Nat × ax) := []
def yf : ax := bJ [.d aV true, .d (.str) false] false [.d ak false]
noncomputable def avf (N : Nat) : Env := dN (az aS) (aZ (Dw N)) bu N Aw []
noncomputable def arC := (eP (az aS) Aw.res (kT (a_ [ak]) yf []))
noncomputable def acx (N : Nat) (n : Nat) : St → Option Int := itO (avf N) Aw 0 0 arC n
noncomputable def SA (N : Nat) (b : af) (name : Txt) (n : Nat) : Int → Option Int := fun i5 => acx N n ⟨[(1, vv Ty.str name), (2, vb 2), (5, vv ak i5)], [(2, bxB b)]⟩
theorem adq (N : Nat) : SA N = Zn N := fx3 fun b name => bK (by kernel_rfl) fun n => by
 show _ = Es N b name (SA N b name n)
 kernel_rfl
theorem ajw (N : Nat) (b : af) (name : Txt) : bg (a_ [ak]) (az aS) (aZ (Dw N)) bu N Aw yf [⟨aV, b⟩, ⟨.str, name⟩] = F.xR N b name := by
 show _ = F.afl N (F.Zn N) b name
 rw [← adq N]
 kernel_rfl
def oh (N : Nat) : ax := aQ yf.ps yf.fz yf.rs [ak] (F.xR N)
theorem mM (N : Nat) : ay Tryz.prog 70 (oh N) := aU (N := N) bz mixed (ah (l := Dw N) trivial) (aO _) amT (by decide) (ajw N)
def arq : Nat → Option Ann
 | 0 => some ⟨⟨[(2, kp), (3, kp), (5, kp)], [(2, k5), (3, [kp, kp, kp, kp, kp, kp])], []⟩, [(0, ⟨[(2, kp), (3, kp)], [(2, k5), (3, [kp, kp, kp, kp, kp, kp])], []⟩)], ⟨[(4, kp)], [], []⟩⟩
 | 2 => some ⟨⟨[(2, kp), (3, kp), (6, kp)], [(2, k5), (3, [kp, kp, kp, kp, kp, kp])], []⟩, [(2, ⟨[(2, kp), (3, kp)], [(2, k5), (3, [kp, kp, kp, kp, kp, kp])], []⟩)], ⟨[(4, kp)], [], []⟩⟩
 | 4 => some ⟨⟨[(2, kp), (3, kp), (7, kp)], [(2, k5), (3, [kp, kp, kp, kp, kp, kp])], []⟩, [(4, n0)], ⟨[(4, kp)], [], []⟩⟩
 | _ => none
noncomputable def vY := fiO Tryz.f101 arq
theorem aro : bZ Tryz.prog 101 vY := okO Tryz.func101 (by kernel_rfl)
def J4 (N : Nat) : List (Nat × ax) := [(70, oh N), (72, oM N)]
def I5 : ax := bJ [.d aV true, .d bQ true] false [.d (.bool) false]
noncomputable def adt (N : Nat) : Env := dN (az aS) (aZ (J4 N)) bu N vY []
noncomputable def ae9 := (eP (az aS) vY.res (kT (a_ [.bool]) I5 []))
noncomputable def ad2 (N : Nat) (n : Nat) : St → Option Bool := itO (adt N) vY 0 4 ae9 n
noncomputable def LC (N : Nat) (b : af) (w : aK) (n : Nat) : Int → Option Bool := fun i7 => ad2 N n ⟨[(2, vb 2), (3, vb 3), (7, vv ak i7)], [(2, bxB b), (3, bxW w)]⟩
theorem ajH (N : Nat) : LC N = Kq N := fx3 fun b w => bK (by kernel_rfl) fun n => by
 show _ = PW N b w (LC N b w n)
 kernel_rfl
noncomputable def adE (N : Nat) (n : Nat) : St → Option Bool := itO (adt N) vY 0 2 ae9 n
noncomputable def J6 (N : Nat) (b : af) (w : aK) (n : Nat) : Int → Option Bool := fun i6 => adE N n ⟨[(2, vb 2), (3, vb 3), (6, vv ak i6)], [(2, bxB b), (3, bxW w)]⟩
theorem ajR (N : Nat) : J6 N = LZ N := fx3 fun b w => bK (by kernel_rfl) fun n => by
 show _ = PU N (Kq N) b w (J6 N b w n)
 rw [show Kq N = LC N from (ajH N).symm]
 kernel_rfl
noncomputable def adI (N : Nat) (n : Nat) : St → Option Bool := itO (adt N) vY 0 0 ae9 n
noncomputable def VA (N : Nat) (b : af) (w : aK) (n : Nat) : Int → Option Bool := fun i5 => adI N n ⟨[(2, vb 2), (3, vb 3), (5, vv ak i5)], [(2, bxB b), (3, bxW w)]⟩
theorem akr (N : Nat) : VA N = adk N := fx3 fun b w => bK (by kernel_rfl) fun n => by
 show _ = Qj N (LZ N) b w (VA N b w n)
 rw [show LZ N = J6 N from (ajR N).symm]
 kernel_rfl
theorem apJ (N : Nat) (b : af) (w : aK) : bg (a_ [.bool]) (az aS) (aZ (J4 N)) bu N vY I5 [⟨aV, b⟩, ⟨bQ, w⟩] = F.akb N b w := by
 show _ = F.am5 N (F.adk N) b w
 rw [← akr N]
 kernel_rfl
def YK (N : Nat) : ax := aQ I5.ps I5.fz I5.rs [.bool] (F.akb N)
theorem aaw (N : Nat) : ay Tryz.prog 101 (YK N) := aU (N := N) bz mixed (ah (l := J4 N) (aT rfl (mM N) (aT rfl (mX N) trivial))) (aO _) aro (by decide) (apJ N)
def ann : Nat → Option Ann
 | 0 => some ⟨⟨[(0, kp), (1, kp), (5, kp)], [], []⟩, [(0, n0)], ⟨[(4, kp)], [], []⟩⟩
 | _ => none
noncomputable def y8 := fiO Tryz.f146 ann
theorem apZ : bZ Tryz.prog 146 y8 := okO Tryz.func146 (by kernel_rfl)
def CO (N : Nat) : List (Nat × ax) := [(72, oM N)]
def zx : ax := bJ [.d aN false, .d aN false] false [.d (.bool) false]
noncomputable def atX (N : Nat) : Env := dN (az aS) (aZ (CO N)) bu N y8 []
noncomputable def avp := (eP (az aS) y8.res (kT (a_ [.bool]) zx []))
noncomputable def acG (N : Nat) (n : Nat) : St → Option Bool := itO (atX N) y8 0 0 avp n
noncomputable def SN (N : Nat) (a : List Txt) (b : List Txt) (n : Nat) : Int → Option Bool := fun i5 => acG N n ⟨[(0, vv aN a), (1, vv aN b), (5, vv ak i5)], []⟩
theorem acY (N : Nat) : SN N = ZE N := fx3 fun a b => bK (by kernel_rfl) fun n => by
 show _ = Gq N a b (SN N a b n)
 kernel_rfl
theorem aiq (N : Nat) (a : List Txt) (b : List Txt) : bg (a_ [.bool]) (az aS) (aZ (CO N)) bu N y8 zx [⟨aN, a⟩, ⟨aN, b⟩] = F.uN N a b := by
 show _ = F.aea N (F.ZE N) a b
 rw [← acY N]
 kernel_rfl
def QU (N : Nat) : ax := aQ zx.ps zx.fz zx.rs [.bool] (F.uN N)
theorem VP (N : Nat) : ay Tryz.prog 146 (QU N) := aU (N := N) bz mixed (ah (l := CO N) (aT rfl (mX N) trivial)) (aO _) apZ (by decide) (aiq N)
noncomputable def agB := fiO Tryz.f175 an0
theorem au7 : bZ Tryz.prog 175 agB := okO Tryz.func175 (by kernel_rfl)
def V_ (N : Nat) : List (Nat × ax) := [(146, QU N)]
def QE : ax := bJ [.d b_ true, .d bQ true, .d dP true] false [.d (.bool) false]
theorem amK (N : Nat) (s : bi) (w : aK) (u : Use) : bg (a_ [.bool]) (az aS) (aZ (V_ N)) bu N agB QE [⟨b_, s⟩, ⟨bQ, w⟩, ⟨dP, u⟩] = F.alK N s w u := by kernel_rfl
def ag2 (N : Nat) : ax := aQ QE.ps QE.fz QE.rs [.bool] (F.alK N)
theorem akY (N : Nat) : ay Tryz.prog 175 (ag2 N) := aU (N := N) bz mixed (ah (l := V_ N) (aT rfl (VP N) trivial)) (aO _) au7 (by decide) (amK N)
def aum : Nat → Option Ann
 | 0 => some ⟨⟨[(2, kp), (3, kp), (5, kp)], [(2, k5), (3, [kp, kp, kp, kp, kp, kp, kp])], []⟩, [(0, n0)], ⟨[(4, kp)], [], []⟩⟩
 | _ => none
noncomputable def IY := fiO Tryz.f142 aum
theorem arO : bZ Tryz.prog 142 IY := okO Tryz.func142 (by kernel_rfl)
def LU (N : Nat) : List (Nat × ax) := [(100, Yb N), (101, YK N), (70, oh N), (175, ag2 N)]
def Gx : ax := bJ [.d aV true, .d dJ true] false [.d (.bool) false]
noncomputable def awh (N : Nat) : Env := dN (az aS) (aZ (LU N)) bu N IY []
noncomputable def axs := (eP (az aS) IY.res (kT (a_ [.bool]) Gx []))
noncomputable def ad8 (N : Nat) (n : Nat) : St → Option Bool := itO (awh N) IY 0 0 axs n
noncomputable def VD (N : Nat) (b : af) (p : dm) (n : Nat) : Int → Option Bool := fun i5 => ad8 N n ⟨[(2, vb 2), (3, vb 3), (5, vv ak i5)], [(2, bxB b), (3, .box [.v ak p.1.1, .v ak p.1.2.1, .v aN p.1.2.2.1, .v dP.slice p.1.2.2.2.1, .v aN p.1.2.2.2.2.1, .v aN p.1.2.2.2.2.2, .v Ty.bool p.2])]⟩
theorem akj (N : Nat) : VD N = adU N := fx3 fun b p => bK (by kernel_rfl) fun n => by
 show _ = Qb N b p (VD N b p n)
 kernel_rfl
theorem aoN (N : Nat) (b : af) (p : dm) : bg (a_ [.bool]) (az aS) (aZ (LU N)) bu N IY Gx [⟨aV, b⟩, ⟨dJ, p⟩] = F.aoc N b p := by
 show _ = F.aqy N (F.adU N) b p
 rw [← akj N]
 kernel_rfl
def agn (N : Nat) : ax := aQ Gx.ps Gx.fz Gx.rs [.bool] (F.aoc N)
theorem aoR (N : Nat) : ay Tryz.prog 142 (agn N) := aU (N := N) bz mixed (ah (l := LU N) (aT rfl (aca N) (aT rfl (aaw N) (aT rfl (mM N) (aT rfl (akY N) trivial))))) (aO _) arO (by decide) (aoN N)
def aoW : Nat → Option Ann
 | 0 => some ⟨⟨[(1, kp), (3, .own 700003 9 Ty.str), (4, kp)], [(1, [kp, kp, kp, kp, kp, kp])], []⟩, [(0, ⟨[(3, .own 700003 9 Ty.str)], [], []⟩)], n0⟩
 | _ => none
noncomputable def zT := fiO Tryz.f104 aoW
theorem al2 : bZ Tryz.prog 104 zT := okO Tryz.func104 (by kernel_rfl)
def Cb (N : Nat) : List (Nat × ax) := []
def zN : ax := bJ [.d bQ true] false [.own aN false [(9, none)]]
noncomputable def aui (N : Nat) : Env := dN (az aS) (aZ (Cb N)) bu N zT []
noncomputable def arW := (eP (az aS) zT.res (kT (a_ [aN]) zN []))
noncomputable def abO (N : Nat) (n : Nat) : St → Option (List Txt) := itO (aui N) zT 0 0 arW n
noncomputable def Uu (N : Nat) (w : aK) (n : Nat) : Int → (List Txt) → Option (List Txt) := fun i4 aA => abO N n ⟨[(1, vb 1), (3, va 700003), (4, vv ak i4)], [(1, bxW w), (700003, .arr 9 Ty.str aA)]⟩
theorem afB (N : Nat) : Uu N = YS N := fx2 fun w => bK (by kernel_rfl) fun n => by
 show _ = Fa N w (Uu N w n)
 kernel_rfl
theorem aiZ (N : Nat) (w : aK) : bg (a_ [aN]) (az aS) (aZ (Cb N)) bu N zT zN [⟨bQ, w⟩] = F.G6 N w := by
 show _ = F.acN N (F.YS N) w
 rw [← afB N]
 kernel_rfl
def Rz (N : Nat) : ax := aQ zN.ps zN.fz zN.rs [aN] (F.G6 N)
theorem XL (N : Nat) : ay Tryz.prog 104 (Rz N) := aU (N := N) bz mixed (ah (l := Cb N) trivial) (aO _) al2 (by decide) (aiZ N)
noncomputable def ags := fiO Tryz.f105 an0
theorem auk : bZ Tryz.prog 105 ags := okO Tryz.func105 (by kernel_rfl)
def WF (N : Nat) : List (Nat × ax) := [(103, Hf N)]
def Qm : ax := bJ [.d bQ true, .d bQ true] false [.d (.bool) false]
theorem amn (N : Nat) (a : aK) (b : aK) : bg (a_ [.bool]) (az aS) (aZ (WF N)) bu N ags Qm [⟨bQ, a⟩, ⟨bQ, b⟩] = F.aeJ N a b := by kernel_rfl
def Zr (N : Nat) : ax := aQ Qm.ps Qm.fz Qm.rs [.bool] (F.aeJ N)
theorem abu (N : Nat) : ay Tryz.prog 105 (Zr N) := aU (N := N) bz mixed (ah (l := WF N) (aT rfl (Il N) trivial)) (aO _) auk (by decide) (amn N)
def asL : Nat → Option Ann
 | 0 => some ⟨⟨[(1, kp), (3, kp)], [(1, k5)], []⟩, [(0, n0)], ⟨[(2, kp)], [], []⟩⟩
 | 2 => some ⟨⟨[(1, kp), (3, kp), (4, kp), (5, kp)], [(1, k5), (4, [kp, kp, kp, kp, kp, kp])], []⟩, [(2, ⟨[(1, kp), (3, kp)], [(1, k5)], []⟩)], ⟨[(2, kp)], [], []⟩⟩
 | _ => none
noncomputable def nU := fiO Tryz.f99 asL
theorem atC : bZ Tryz.prog 99 nU := okO Tryz.func99 (by kernel_rfl)
def KT (N : Nat) : List (Nat × ax) := [(142, agn N), (104, Rz N), (103, Hf N), (105, Zr N)]
def Gv : ax := bJ [.d aV true] false [.d (.bool) false]
def Rj (b : af) (i3 : Int) : St := ⟨[(1, vb 1), (3, vv ak i3)], [(1, bxB b)]⟩
noncomputable def XY (N : Nat) : Env := dN (az aS) (aZ (KT N)) bu N nU []
noncomputable def aoe := (eP (az aS) nU.res (kT (a_ [.bool]) Gv []))
noncomputable def ac7 (N : Nat) (nxS0 : St → Option Bool) (n : Nat) : St → Option Bool := fun S' => nM [] (iU nU 2) (code (XY N) (jl (jl nU.body 0 0) 0 2) 2) n S' (fQ (XY N) (jl nU.body 0 0) 0 2 (NU [] (iU nU 0) nxS0 (fQ (XY N) nU.body 0 0 aoe)))
noncomputable def MK (N : Nat) (nxS0 : St → Option Bool) (b : af) (i3 : Int) (aB : Int) (bB : Int) (cB : List Txt) (eB : List Use) (fB : List Txt) (gB : List Txt) (n : Nat) : Int → Option Bool := fun k5 => ac7 N nxS0 n ⟨[(1, vb 1), (3, vv ak i3), (4, vb 4), (5, vv ak k5)], [(1, bxB b), (4, .box [.v ak aB, .v ak bB, .v aN cB, .v dP.slice eB, .v aN fB, .v aN gB])]⟩
theorem ajs (N : Nat) (nxS0 : St → Option Bool) (b : af) : MK N nxS0 b = Uw N (fun i3 => nxS0 (Rj b i3)) b := fx8 fun i3 aB bB cB eB fB gB => bK (by kernel_rfl) fun n => by
 show _ = P9 N (fun i3 => nxS0 (Rj b i3)) b i3 aB bB cB eB fB gB (MK N nxS0 b i3 aB bB cB eB fB gB n)
 kernel_rfl
noncomputable def DJ (N : Nat) (n : Nat) : St → Option Bool := itO (XY N) nU 0 0 aoe n
noncomputable def AP (N : Nat) (b : af) (n : Nat) : Int → Option Bool := fun i3 => DJ N n (Rj b i3)
theorem aiU (N : Nat) : AP N = aeC N := fx2 fun b => bK (by kernel_rfl) fun n => by
 show _ = Qv N (Uw N (AP N b n) b) b (AP N b n)
 rw [show Uw N (AP N b n) b = MK N (DJ N n) b from (ajs N (DJ N n) b).symm]
 kernel_rfl
theorem anR (N : Nat) (b : af) : bg (a_ [.bool]) (az aS) (aZ (KT N)) bu N nU Gv [⟨aV, b⟩] = F.ap1 N b := by
 show _ = F.apl N (F.aeC N) b
 rw [← aiU N]
 kernel_rfl
def agD (N : Nat) : ax := aQ Gv.ps Gv.fz Gv.rs [.bool] (F.ap1 N)
theorem aoQ (N : Nat) : ay Tryz.prog 99 (agD N) := aU (N := N) bz mixed (ah (l := KT N) (aT rfl (aoR N) (aT rfl (XL N) (aT rfl (Il N) (aT rfl (abu N) trivial))))) (aO _) atC (by decide) (anR N)
def asG : Nat → Option Ann
 | 0 => some ⟨⟨[(1, kp), (3, kp)], [(1, k5)], []⟩, [(0, ⟨[(1, kp)], [(1, k5)], []⟩)], ⟨[(2, kp)], [], []⟩⟩
 | _ => none
noncomputable def Ik := fiO Tryz.f63 asG
theorem avq : bZ Tryz.prog 63 Ik := okO Tryz.func63 (by kernel_rfl)
def Kt (N : Nat) : List (Nat × ax) := [(96, agH N), (97, Ov N), (65, oz N), (98, agf N), (99, agD N)]
def II : ax := bJ [.d aV true] false [.d (.bool) false]
noncomputable def avW (N : Nat) : Env := dN (az aS) (aZ (Kt N)) bu N Ik []
noncomputable def awn := (eP (az aS) Ik.res (kT (a_ [.bool]) II []))
noncomputable def aff (N : Nat) (n : Nat) : St → Option Bool := itO (avW N) Ik 0 0 awn n
noncomputable def V8 (N : Nat) (b : af) (n : Nat) : Int → Option Bool := fun i3 => aff N n ⟨[(1, vb 1), (3, vv ak i3)], [(1, bxB b)]⟩
theorem ajA (N : Nat) : V8 N = Zi N := fx2 fun b => bK (by kernel_rfl) fun n => by
 show _ = Qg N b (V8 N b n)
 kernel_rfl
theorem ala (N : Nat) (b : af) : bg (a_ [.bool]) (az aS) (aZ (Kt N)) bu N Ik II [⟨aV, b⟩] = F.UY N b := by
 show _ = F.anE N (F.Zi N) b
 rw [← ajA N]
 kernel_rfl
def xh (N : Nat) : ax := aQ II.ps II.fz II.rs [.bool] (F.UY N)
theorem uz (N : Nat) : ay Tryz.prog 63 (xh N) := aU (N := N) bz mixed (ah (l := Kt N) (aT rfl (aqP N) (aT rfl (SQ N) (aT rfl (nK N) (aT rfl (aqp N) (aT rfl (aoQ N) trivial)))))) (aO _) avq (by decide) (ala N)
noncomputable def ZU := fiO Tryz.f27 an0
theorem aqA : bZ Tryz.prog 27 ZU := okO Tryz.func27 (by kernel_rfl)
def Ub (N : Nat) : List (Nat × ax) := [(63, xh N)]
def Ic : ax := bJ [.d aV true, .d aV true] true [.d aV true, .d (.str) false]
theorem ajt (N : Nat) (old : af) (b : af) : bg (a_ [aV, .str]) (az aS) (aZ (Ub N)) bu N ZU Ic [⟨aV, old⟩, ⟨aV, b⟩] = F.Gg N old b := by kernel_rfl
def IK (N : Nat) : ax := aQ Ic.ps Ic.fz Ic.rs [aV, .str] (F.Gg N)
theorem Nq (N : Nat) : ay Tryz.prog 27 (IK N) := aU (N := N) bz mixed (ah (l := Ub N) (aT rfl (uz N) trivial)) (aO _) aqA (by decide) (ajt N)
noncomputable def aa4 := fiO Tryz.f23 an0
theorem am4 : bZ Tryz.prog 23 aa4 := okO Tryz.func23 (by kernel_rfl)
def Rw (N : Nat) : List (Nat × ax) := [(25, xk N), (27, IK N)]
def Hl : ax := bJ [.d aV true, .d aN false] true [.d aV true, .d (.str) false]
theorem ajb (N : Nat) (b : af) (ws : List Txt) : bg (a_ [aV, .str]) (az aS) (aZ (Rw N)) bu N aa4 Hl [⟨aV, b⟩, ⟨aN, ws⟩] = F.ZT N b ws := by kernel_rfl
def aaV (N : Nat) : ax := aQ Hl.ps Hl.fz Hl.rs [aV, .str] (F.ZT N)
theorem akC (N : Nat) : ay Tryz.prog 23 (aaV N) := aU (N := N) bz mixed (ah (l := Rw N) (aT rfl (uQ N) (aT rfl (Nq N) trivial))) (aO _) am4 (by decide) (ajb N)
def asD : Nat → Option Ann
 | 0 => some ⟨⟨[(0, kp), (3, kp), (4, kp)], [], []⟩, [(0, ⟨[(3, kp)], [], []⟩)], ⟨[(2, kp)], [], []⟩⟩
 | _ => none
noncomputable def Gj := fiO Tryz.f32 asD
theorem atZ : bZ Tryz.prog 32 Gj := okO Tryz.func32 (by kernel_rfl)
def Lr (N : Nat) : List (Nat × ax) := [(65, oz N)]
def ED : ax := bJ [.d (.str) false] false [.d ak false]
noncomputable def ax3 (N : Nat) : Env := dN (az aS) (aZ (Lr N)) bu N Gj []
noncomputable def axW := (eP (az aS) Gj.res (kT (a_ [ak]) ED []))
noncomputable def ada (N : Nat) (n : Nat) : St → Option Int := itO (ax3 N) Gj 0 0 axW n
noncomputable def XH (N : Nat) (s : Txt) (n : Nat) : Int → Int → Option Int := fun n3 i4 => ada N n ⟨[(0, vv Ty.str s), (3, vv ak n3), (4, vv ak i4)], []⟩
theorem aiT (N : Nat) : XH N = Dx N := fx2 fun s => bK (by kernel_rfl) fun n => by
 show _ = Bz N s (XH N s n)
 kernel_rfl
theorem aq0 (N : Nat) (s : Txt) : bg (a_ [ak]) (az aS) (aZ (Lr N)) bu N Gj ED [⟨.str, s⟩] = F.zX N s := by
 show _ = F.ao_ N (F.Dx N) s
 rw [← aiT N]
 kernel_rfl
def FP (N : Nat) : ax := aQ ED.ps ED.fz ED.rs [ak] (F.zX N)
theorem EE (N : Nat) : ay Tryz.prog 32 (FP N) := aU (N := N) bz mixed (ah (l := Lr N) (aT rfl (nK N) trivial)) (aO _) atZ (by decide) (aq0 N)
noncomputable def agi := fiO Tryz.f26 an0
theorem ass : bZ Tryz.prog 26 agi := okO Tryz.func26 (by kernel_rfl)
def W9 (N : Nat) : List (Nat × ax) := [(8, EN N)]
def O3 : ax := bJ [.d (.str) false] true [.d aN false]
theorem ams (N : Nat) (s : Txt) : bg (a_ [aN]) (az aS) (aZ (W9 N)) bu N agi O3 [⟨.str, s⟩] = F.Sm N s := by kernel_rfl
def Ei (N : Nat) : ax := aQ O3.ps O3.fz O3.rs [aN] (F.Sm N)
theorem H_ (N : Nat) : ay Tryz.prog 26 (Ei N) := aU (N := N) bz mixed (ah (l := W9 N) (aT rfl (KR N) trivial)) (aO _) ass (by decide) (ams N)
def anW : Nat → Option Ann
 | 0 => some ⟨⟨[(1, kp), (2, kp), (4, kp), (6, kp), (7, kp)], [(2, k5), (4, k5), (6, [.own 1000600 44 f_, .frz b_, .own 1000602 9 Ty.str, .dow 1000603 91 [9, 101, 9, 9] dJ, kp])], []⟩, [(0, ⟨[(1, kp), (2, kp), (4, kp), (6, kp), (7, kp)], [(2, k5), (4, k5), (6, [.own 1000600 44 f_, .frz b_, .own 1000602 9 Ty.str, .dow 1000603 91 [9, 101, 9, 9] dJ, kp])], []⟩)], n0⟩
 | _ => none
noncomputable def zM := fiO Tryz.f24 anW
theorem al5 : bZ Tryz.prog 24 zM := okO Tryz.func24 (by kernel_rfl)
def CQ (N : Nat) : List (Nat × ax) := [(25, xk N), (32, FP N), (26, Ei N), (27, IK N)]
def Ak : ax := bJ [.d aV true, .d aN false] true [.d aV true, .d (.str) false]
noncomputable def auN (N : Nat) : Env := dN (az aS) (aZ (CQ N)) bu N zM []
noncomputable def auv := (eP (az aS) zM.res (kT (a_ [aV, .str]) Ak []))
noncomputable def aaQ (N : Nat) (n : Nat) : St → Option (af × Txt) := itO (auN N) zM 0 0 auv n
noncomputable def SL (N : Nat) (b : af) (ws : List Txt) (r : af) (bA : Int) (n : Nat) : Int → Option (af × Txt) := fun k7 => aaQ N n ⟨[(1, vv aN ws), (2, vb 2), (4, vb 4), (6, vb 6), (7, vv ak k7)], [(2, bxB b), (4, .box [.emp, .emp, .emp, .emp, .v ak bA]), (6, .box [.arr 1000600, .v b_.slice r.2.1, .arr 1000602, .arr 1000603, .v ak r.2.2.2.2]), (1000600, .arr 44 f_ r.1), (1000602, .arr 9 Ty.str r.2.2.1), (1000603, .arr 91 dJ r.2.2.2.1 (Dp.yes [9, 101, 9, 9]))]⟩
theorem ae7 (N : Nat) : SL N = AC N := fx5 fun b ws r bA => bK (by kernel_rfl) fun n => by
 show _ = uu N b ws r bA (SL N b ws r bA n)
 kernel_rfl
theorem aix (N : Nat) (b : af) (ws : List Txt) : bg (a_ [aV, .str]) (az aS) (aZ (CQ N)) bu N zM Ak [⟨aV, b⟩, ⟨aN, ws⟩] = F.abB N b ws := by
 show _ = F.aeZ N (F.AC N) b ws
 rw [← ae7 N]
 kernel_rfl
def aah (N : Nat) : ax := aQ Ak.ps Ak.fz Ak.rs [aV, .str] (F.abB N)
theorem aiR (N : Nat) : ay Tryz.prog 24 (aah N) := aU (N := N) bz mixed (ah (l := CQ N) (aT rfl (uQ N) (aT rfl (EE N) (aT rfl (H_ N) (aT rfl (Nq N) trivial))))) (aO _) al5 (by decide) (aix N)
def aop : Nat → Option Ann
 | 0 => some ⟨⟨[(3, .own 700003 101 dP), (4, kp), (5, kp)], [], []⟩, [(0, ⟨[(3, .own 700003 101 dP)], [], []⟩)], n0⟩
 | _ => none
noncomputable def yw := fiO Tryz.f68 aop
theorem aqw : bZ Tryz.prog 68 yw := okO Tryz.func68 (by kernel_rfl)
def CY (N : Nat) : List (Nat × ax) := [(26, Ei N), (8, EN N), (32, FP N)]
def y_ : ax := bJ [.d (.str) false] true [.d (.slice dP) false]
noncomputable def atS (N : Nat) : Env := dN (az aS) (aZ (CY N)) bu N yw []
noncomputable def at1 := (eP (az aS) yw.res (kT (a_ [.slice dP]) y_ []))
noncomputable def aci (N : Nat) (n : Nat) : St → Option (List Use) := itO (atS N) yw 0 0 at1 n
noncomputable def Un (N : Nat) (r : List Txt) (n : Nat) : Int → (List Use) → Option (List Use) := fun i5 aA => aci N n ⟨[(3, va 700003), (4, vv aN r), (5, vv ak i5)], [(700003, .arr 101 dP aA)]⟩
theorem aeH (N : Nat) : Un N = YD N := fx2 fun r => bK (by kernel_rfl) fun n => by
 show _ = Je N r (Un N r n)
 kernel_rfl
theorem aiI (N : Nat) (s : Txt) : bg (a_ [.slice dP]) (az aS) (aZ (CY N)) bu N yw y_ [⟨.str, s⟩] = F.abo N s := by
 show _ = F.aeL N (F.YD N) s
 rw [← aeH N]
 kernel_rfl
def aaR (N : Nat) : ax := aQ y_.ps y_.fz y_.rs [.slice dP] (F.abo N)
theorem akG (N : Nat) : ay Tryz.prog 68 (aaR N) := aU (N := N) bz mixed (ah (l := CY N) (aT rfl (H_ N) (aT rfl (KR N) (aT rfl (EE N) trivial)))) (aO _) aqw (by decide) (aiI N)
noncomputable def ZV := fiO Tryz.f30 an0
theorem alo : bZ Tryz.prog 30 ZV := okO Tryz.func30 (by kernel_rfl)
def TU (N : Nat) : List (Nat × ax) := [(32, FP N), (26, Ei N), (68, aaR N)]
def IB : ax := bJ [.d ak false, .d (.str) false, .d aN false] true [.d bQ true]
theorem aj6 (N : Nat) (kind : Int) (iJ : Txt) (ws : List Txt) : bg (a_ [bQ]) (az aS) (aZ (TU N)) bu N ZV IB [⟨ak, kind⟩, ⟨.str, iJ⟩, ⟨aN, ws⟩] = F.Tf N kind iJ ws := by kernel_rfl
def aaT (N : Nat) : ax := aQ IB.ps IB.fz IB.rs [bQ] (F.Tf N)
theorem aky (N : Nat) : ay Tryz.prog 30 (aaT N) := aU (N := N) bz mixed (ah (l := TU N) (aT rfl (EE N) (aT rfl (H_ N) (aT rfl (akG N) trivial)))) (aO _) alo (by decide) (aj6 N)
def aoY : Nat → Option Ann
 | 0 => some ⟨⟨[(1, kp), (2, kp), (5, kp)], [(2, k5)], []⟩, [(0, n0)], ⟨[(4, kp)], [], []⟩⟩
 | _ => none
noncomputable def yu := fiO Tryz.f66 aoY
theorem anq : bZ Tryz.prog 66 yu := okO Tryz.func66 (by kernel_rfl)
def Dy (N : Nat) : List (Nat × ax) := []
def yM : ax := bJ [.d aV true, .d ak false] false [.d ak false]
noncomputable def avh (N : Nat) : Env := dN (az aS) (aZ (Dy N)) bu N yu []
noncomputable def au9 := (eP (az aS) yu.res (kT (a_ [ak]) yM []))
noncomputable def ace (N : Nat) (n : Nat) : St → Option Int := itO (avh N) yu 0 0 au9 n
noncomputable def TK (N : Nat) (b : af) (number : Int) (n : Nat) : Int → Option Int := fun i5 => ace N n ⟨[(1, vv ak number), (2, vb 2), (5, vv ak i5)], [(2, bxB b)]⟩
theorem afJ (N : Nat) : TK N = Za N := fx3 fun b number => bK (by kernel_rfl) fun n => by
 show _ = EM N b number (TK N b number n)
 kernel_rfl
theorem ajN (N : Nat) (b : af) (number : Int) : bg (a_ [ak]) (az aS) (aZ (Dy N)) bu N yu yM [⟨aV, b⟩, ⟨ak, number⟩] = F.FY N b number := by
 show _ = F.adv N (F.Za N) b number
 rw [← afJ N]
 kernel_rfl
def uK (N : Nat) : ax := aQ yM.ps yM.fz yM.rs [ak] (F.FY N)
theorem uh (N : Nat) : ay Tryz.prog 66 (uK N) := aU (N := N) bz mixed (ah (l := Dy N) trivial) (aO _) anq (by decide) (ajN N)
def ave : Nat → Option Ann
 | 0 => some ⟨⟨[(0, kp), (1, kp), (5, kp)], [], []⟩, [(0, n0)], ⟨[(4, kp)], [], []⟩⟩
 | _ => none
noncomputable def F6 := fiO Tryz.f144 ave
theorem aux : bZ Tryz.prog 144 F6 := okO Tryz.func144 (by kernel_rfl)
def J_ (N : Nat) : List (Nat × ax) := []
def E5 : ax := bJ [.d aN false, .d aN false] false [.d (.bool) false]
noncomputable def awv (N : Nat) : Env := dN (az aS) (aZ (J_ N)) bu N F6 []
noncomputable def awY := (eP (az aS) F6.res (kT (a_ [.bool]) E5 []))
noncomputable def adM (N : Nat) (n : Nat) : St → Option Bool := itO (awv N) F6 0 0 awY n
noncomputable def Vg (N : Nat) (a : List Txt) (b : List Txt) (n : Nat) : Int → Option Bool := fun i5 => adM N n ⟨[(0, vv aN a), (1, vv aN b), (5, vv ak i5)], []⟩
theorem ajm (N : Nat) : Vg N = aed N := fx3 fun a b => bK (by kernel_rfl) fun n => by
 show _ = QG N a b (Vg N a b n)
 kernel_rfl
theorem anf (N : Nat) (a : List Txt) (b : List Txt) : bg (a_ [.bool]) (az aS) (aZ (J_ N)) bu N F6 E5 [⟨aN, a⟩, ⟨aN, b⟩] = F.ae3 N a b := by
 show _ = F.alP N (F.aed N) a b
 rw [← ajm N]
 kernel_rfl
def agC (N : Nat) : ax := aQ E5.ps E5.fz E5.rs [.bool] (F.ae3 N)
theorem anV (N : Nat) : ay Tryz.prog 144 (agC N) := aU (N := N) bz mixed (ah (l := J_ N) trivial) (aO _) aux (by decide) (anf N)
def atL : Nat → Option Ann
 | 0 => some ⟨⟨[(2, kp), (3, kp), (5, kp)], [(2, [kp, kp, kp, kp, kp, kp]), (3, [kp, kp, kp, kp, kp, kp])], []⟩, [(0, n0)], ⟨[(4, kp)], [], []⟩⟩
 | _ => none
noncomputable def D9 := fiO Tryz.f102 atL
theorem arE : bZ Tryz.prog 102 D9 := okO Tryz.func102 (by kernel_rfl)
def ML (N : Nat) : List (Nat × ax) := [(144, agC N)]
def IL : ax := bJ [.d bQ true, .d bQ true] false [.d (.bool) false]
noncomputable def awq (N : Nat) : Env := dN (az aS) (aZ (ML N)) bu N D9 []
noncomputable def axx := (eP (az aS) D9.res (kT (a_ [.bool]) IL []))
noncomputable def ae0 (N : Nat) (n : Nat) : St → Option Bool := itO (awq N) D9 0 0 axx n
noncomputable def Xt (N : Nat) (a : aK) (b : aK) (n : Nat) : Int → Option Bool := fun i5 => ae0 N n ⟨[(2, vb 2), (3, vb 3), (5, vv ak i5)], [(2, bxW a), (3, bxW b)]⟩
theorem ah9 (N : Nat) : Xt N = YC N := fx3 fun a b => bK (by kernel_rfl) fun n => by
 show _ = PQ N a b (Xt N a b n)
 kernel_rfl
theorem alN (N : Nat) (a : aK) (b : aK) : bg (a_ [.bool]) (az aS) (aZ (ML N)) bu N D9 IL [⟨bQ, a⟩, ⟨bQ, b⟩] = F.aic N a b := by
 show _ = F.apF N (F.YC N) a b
 rw [← ah9 N]
 kernel_rfl
def ahl (N : Nat) : ax := aQ IL.ps IL.fz IL.rs [.bool] (F.aic N)
theorem ak1 (N : Nat) : ay Tryz.prog 102 (ahl N) := aU (N := N) bz mixed (ah (l := ML N) (aT rfl (anV N) trivial)) (aO _) arE (by decide) (alN N)
def arH : Nat → Option Ann
 | 0 => some ⟨⟨[(1, kp), (2, kp), (3, kp), (7, kp)], [(3, k5)], []⟩, [(0, n0)], ⟨[(6, kp)], [], []⟩⟩
 | _ => none
noncomputable def IC := fiO Tryz.f145 arH
theorem aul : bZ Tryz.prog 145 IC := okO Tryz.func145 (by kernel_rfl)
def MR (N : Nat) : List (Nat × ax) := [(141, Y1 N)]
def Gh : ax := bJ [.d aV true, .d aN false, .d aN false] false [.d (.bool) false]
noncomputable def awx (N : Nat) : Env := dN (az aS) (aZ (MR N)) bu N IC []
noncomputable def axu := (eP (az aS) IC.res (kT (a_ [.bool]) Gh []))
noncomputable def ad6 (N : Nat) (n : Nat) : St → Option Bool := itO (awx N) IC 0 0 axu n
noncomputable def WY (N : Nat) (b : af) (x : List Txt) (y : List Txt) (n : Nat) : Int → Option Bool := fun i7 => ad6 N n ⟨[(1, vv aN x), (2, vv aN y), (3, vb 3), (7, vv ak i7)], [(3, bxB b)]⟩
theorem ai3 (N : Nat) : WY N = aeX N := fx4 fun b x y => bK (by kernel_rfl) fun n => by
 show _ = QF N b x y (WY N b x y n)
 kernel_rfl
theorem alO (N : Nat) (b : af) (x : List Txt) (y : List Txt) : bg (a_ [.bool]) (az aS) (aZ (MR N)) bu N IC Gh [⟨aV, b⟩, ⟨aN, x⟩, ⟨aN, y⟩] = F.adX N b x y := by
 show _ = F.an2 N (F.aeX N) b x y
 rw [← ai3 N]
 kernel_rfl
def agk (N : Nat) : ax := aQ Gh.ps Gh.fz Gh.rs [.bool] (F.adX N)
theorem amh (N : Nat) : ay Tryz.prog 145 (agk N) := aU (N := N) bz mixed (ah (l := MR N) (aT rfl (aab N) trivial)) (aO _) aul (by decide) (alO N)
def ar1 : Nat → Option Ann
 | 0 => some ⟨⟨[(0, kp), (1, kp), (5, kp), (6, kp)], [], []⟩, [(0, ⟨[(5, kp)], [], []⟩)], n0⟩
 | _ => none
noncomputable def GR := fiO Tryz.f147 ar1
theorem arI : bZ Tryz.prog 147 GR := okO Tryz.func147 (by kernel_rfl)
def KW (N : Nat) : List (Nat × ax) := [(72, oM N)]
def F_ : ax := bJ [.d aN false, .d aN false] false [.d ak false]
noncomputable def av1 (N : Nat) : Env := dN (az aS) (aZ (KW N)) bu N GR []
noncomputable def awZ := (eP (az aS) GR.res (kT (a_ [ak]) F_ []))
noncomputable def afG (N : Nat) (n : Nat) : St → Option Int := itO (av1 N) GR 0 0 awZ n
noncomputable def WL (N : Nat) (a : List Txt) (b : List Txt) (n : Nat) : Int → Int → Option Int := fun n5 i6 => afG N n ⟨[(0, vv aN a), (1, vv aN b), (5, vv ak n5), (6, vv ak i6)], []⟩
theorem akq (N : Nat) : WL N = ac9 N := fx3 fun a b => bK (by kernel_rfl) fun n => by
 show _ = Ef N a b (WL N a b n)
 kernel_rfl
theorem ao3 (N : Nat) (a : List Txt) (b : List Txt) : bg (a_ [ak]) (az aS) (aZ (KW N)) bu N GR F_ [⟨aN, a⟩, ⟨aN, b⟩] = F.aaZ N a b := by
 show _ = F.anr N (F.ac9 N) a b
 rw [← akq N]
 kernel_rfl
def agP (N : Nat) : ax := aQ F_.ps F_.fz F_.rs [ak] (F.aaZ N)
theorem amM (N : Nat) : ay Tryz.prog 147 (agP N) := aU (N := N) bz mixed (ah (l := KW N) (aT rfl (mX N) trivial)) (aO _) arI (by decide) (ao3 N)
def arN : Nat → Option Ann
 | 0 => some ⟨⟨[(2, kp), (3, kp), (5, kp)], [(2, k5), (3, [kp, kp, kp, kp, kp, kp])], []⟩, [(0, n0)], ⟨[(4, kp)], [], []⟩⟩
 | _ => none
noncomputable def En := fiO Tryz.f106 arN
theorem auW : bZ Tryz.prog 106 En := okO Tryz.func106 (by kernel_rfl)
def La (N : Nat) : List (Nat × ax) := [(145, agk N), (70, oh N), (146, QU N), (147, agP N)]
def D5 : ax := bJ [.d aV true, .d bQ true] false [.d ak false]
noncomputable def axX (N : Nat) : Env := dN (az aS) (aZ (La N)) bu N En []
noncomputable def avT := (eP (az aS) En.res (kT (a_ [ak]) D5 []))
noncomputable def aeY (N : Nat) (n : Nat) : St → Option Int := itO (axX N) En 0 0 avT n
noncomputable def VN (N : Nat) (b : af) (w : aK) (n : Nat) : Int → Option Int := fun i5 => aeY N n ⟨[(2, vb 2), (3, vb 3), (5, vv ak i5)], [(2, bxB b), (3, bxW w)]⟩
theorem ait (N : Nat) : VN N = Zx N := fx3 fun b w => bK (by kernel_rfl) fun n => by
 show _ = Jj N b w (VN N b w n)
 kernel_rfl
theorem aos (N : Nat) (b : af) (w : aK) : bg (a_ [ak]) (az aS) (aZ (La N)) bu N En D5 [⟨aV, b⟩, ⟨bQ, w⟩] = F.al0 N b w := by
 show _ = F.ao4 N (F.Zx N) b w
 rw [← ait N]
 kernel_rfl
def afT (N : Nat) : ax := aQ D5.ps D5.fz D5.rs [ak] (F.al0 N)
theorem aqm (N : Nat) : ay Tryz.prog 106 (afT N) := aU (N := N) bz mixed (ah (l := La N) (aT rfl (amh N) (aT rfl (mM N) (aT rfl (VP N) (aT rfl (amM N) trivial))))) (aO _) auW (by decide) (aos N)
def ar0 : Nat → Option Ann
 | 0 => some ⟨⟨[(2, kp), (3, kp), (5, kp)], [(2, k5), (3, [kp, kp, kp, kp, kp, kp])], []⟩, [(0, n0)], ⟨[(4, kp)], [], []⟩⟩
 | _ => none
noncomputable def H7 := fiO Tryz.f107 ar0
theorem atE : bZ Tryz.prog 107 H7 := okO Tryz.func107 (by kernel_rfl)
def Ku (N : Nat) : List (Nat × ax) := [(70, oh N)]
def FH : ax := bJ [.d aV true, .d bQ true] false [.d ak false]
noncomputable def aw6 (N : Nat) : Env := dN (az aS) (aZ (Ku N)) bu N H7 []
noncomputable def aw_ := (eP (az aS) H7.res (kT (a_ [ak]) FH []))
noncomputable def afz (N : Nat) (n : Nat) : St → Option Int := itO (aw6 N) H7 0 0 aw_ n
noncomputable def Xw (N : Nat) (b : af) (w : aK) (n : Nat) : Int → Option Int := fun i5 => afz N n ⟨[(2, vb 2), (3, vb 3), (5, vv ak i5)], [(2, bxB b), (3, bxW w)]⟩
theorem ain (N : Nat) : Xw N = afj N := fx3 fun b w => bK (by kernel_rfl) fun n => by
 show _ = QD N b w (Xw N b w n)
 kernel_rfl
theorem aps (N : Nat) (b : af) (w : aK) : bg (a_ [ak]) (az aS) (aZ (Ku N)) bu N H7 FH [⟨aV, b⟩, ⟨bQ, w⟩] = F.alf N b w := by
 show _ = F.am_ N (F.afj N) b w
 rw [← ain N]
 kernel_rfl
def agU (N : Nat) : ax := aQ FH.ps FH.fz FH.rs [ak] (F.alf N)
theorem amJ (N : Nat) : ay Tryz.prog 107 (agU N) := aU (N := N) bz mixed (ah (l := Ku N) (aT rfl (mM N) trivial)) (aO _) atE (by decide) (aps N)
def atc : Nat → Option Ann
 | 0 => some ⟨⟨[(2, kp), (3, kp), (6, kp)], [(2, k5), (3, [kp, kp, kp, kp, kp, kp])], []⟩, [(0, ⟨[(2, kp), (3, kp)], [(2, k5), (3, [kp, kp, kp, kp, kp, kp])], []⟩)], ⟨[(4, kp)], [], []⟩⟩
 | 2 => some ⟨⟨[(2, kp), (3, kp), (7, kp)], [(2, k5), (3, [kp, kp, kp, kp, kp, kp])], []⟩, [(2, ⟨[(2, kp), (3, kp)], [(2, k5), (3, [kp, kp, kp, kp, kp, kp])], []⟩)], ⟨[(4, kp)], [], []⟩⟩
 | _ => none
noncomputable def BA := fiO Tryz.f64 atc
theorem ar4 : bZ Tryz.prog 64 BA := okO Tryz.func64 (by kernel_rfl)
def LM (N : Nat) : List (Nat × ax) := [(63, xh N), (100, Yb N), (101, YK N), (66, uK N), (102, ahl N), (104, Rz N), (103, Hf N), (105, Zr N), (106, afT N), (107, agU N)]
def G7 : ax := bJ [.d aV true, .d bQ true] false [.d ak false]
noncomputable def ap7 (N : Nat) : Env := dN (az aS) (aZ (LM N)) bu N BA []
noncomputable def amy := (eP (az aS) BA.res (kT (a_ [ak]) G7 []))
noncomputable def adu (N : Nat) (n : Nat) : St → Option Int := itO (ap7 N) BA 0 2 amy n
noncomputable def KX (N : Nat) (b : af) (w : aK) (n : Nat) : Int → Option Int := fun i7 => adu N n ⟨[(2, vb 2), (3, vb 3), (7, vv ak i7)], [(2, bxB b), (3, bxW w)]⟩
theorem aim (N : Nat) : KX N = RD N := fx3 fun b w => bK (by kernel_rfl) fun n => by
 show _ = P8 N b w (KX N b w n)
 kernel_rfl
noncomputable def aep (N : Nat) (n : Nat) : St → Option Int := itO (ap7 N) BA 0 0 amy n
noncomputable def XE (N : Nat) (b : af) (w : aK) (n : Nat) : Int → Option Int := fun i6 => aep N n ⟨[(2, vb 2), (3, vb 3), (6, vv ak i6)], [(2, bxB b), (3, bxW w)]⟩
theorem ajf (N : Nat) : XE N = afD N := fx3 fun b w => bK (by kernel_rfl) fun n => by
 show _ = PG N (RD N) b w (XE N b w n)
 rw [show RD N = KX N from (aim N).symm]
 kernel_rfl
theorem apf (N : Nat) (b : af) (w : aK) : bg (a_ [ak]) (az aS) (aZ (LM N)) bu N BA G7 [⟨aV, b⟩, ⟨bQ, w⟩] = F.amu N b w := by
 show _ = F.aoO N (F.afD N) b w
 rw [← ajf N]
 kernel_rfl
def agA (N : Nat) : ax := aQ G7.ps G7.fz G7.rs [ak] (F.amu N)
theorem ana (N : Nat) : ay Tryz.prog 64 (agA N) := aU (N := N) bz mixed (ah (l := LM N) (aT rfl (uz N) (aT rfl (aca N) (aT rfl (aaw N) (aT rfl (uh N) (aT rfl (ak1 N) (aT rfl (XL N) (aT rfl (Il N) (aT rfl (abu N) (aT rfl (aqm N) (aT rfl (amJ N) trivial))))))))))) (aO _) ar4 (by decide) (apf N)
def avw : Nat → Option Ann
 | 0 => some ⟨⟨[(0, kp), (1, kp), (5, kp)], [], []⟩, [(0, ⟨[(0, kp), (1, kp), (5, kp)], [], []⟩)], n0⟩
 | _ => none
noncomputable def GG := fiO Tryz.f94 avw
theorem arK : bZ Tryz.prog 94 GG := okO Tryz.func94 (by kernel_rfl)
def JK (N : Nat) : List (Nat × ax) := []
def Ey : ax := bJ [.d aN false, .d (.str) false] true [.d aN false]
noncomputable def awu (N : Nat) : Env := dN (az aS) (aZ (JK N)) bu N GG []
noncomputable def aw8 := (eP (az aS) GG.res (kT (a_ [aN]) Ey []))
noncomputable def aeA (N : Nat) (n : Nat) : St → Option (List Txt) := itO (awu N) GG 0 0 aw8 n
noncomputable def XW (N : Nat) (list : List Txt) (name : Txt) (n : Nat) : Int → Option (List Txt) := fun k5 => aeA N n ⟨[(0, vv aN list), (1, vv Ty.str name), (5, vv ak k5)], []⟩
theorem ai2 (N : Nat) : XW N = aeW N := fx3 fun list name => bK (by kernel_rfl) fun n => by
 show _ = Hz N list name (XW N list name n)
 kernel_rfl
theorem ao2 (N : Nat) (list : List Txt) (name : Txt) : bg (a_ [aN]) (az aS) (aZ (JK N)) bu N GG Ey [⟨aN, list⟩, ⟨.str, name⟩] = F.aaI N list name := by
 show _ = F.aoB N (F.aeW N) list name
 rw [← ai2 N]
 kernel_rfl
def Yd (N : Nat) : ax := aQ Ey.ps Ey.fz Ey.rs [aN] (F.aaI N)
theorem abh (N : Nat) : ay Tryz.prog 94 (Yd N) := aU (N := N) bz mixed (ah (l := JK N) trivial) (aO _) arK (by decide) (ao2 N)
def amZ : Nat → Option Ann
 | 0 => some ⟨⟨[(2, kp), (3, kp), (4, kp), (5, kp)], [(2, [.own 1000200 44 f_, .own 1000201 46 b_, .own 1000202 9 Ty.str, .dow 1000203 91 [9, 101, 9, 9] dJ, kp]), (3, [kp, kp, kp, kp, kp, kp]), (4, k5)], []⟩, [(0, ⟨[(2, kp), (3, kp), (4, kp)], [(2, [.own 1000200 44 f_, .own 1000201 46 b_, .own 1000202 9 Ty.str, .dow 1000203 91 [9, 101, 9, 9] dJ, kp]), (3, [kp, kp, kp, kp, kp, kp]), (4, k5)], []⟩)], n0⟩
 | 2 => some ⟨⟨[(2, kp), (3, kp), (4, kp), (5, kp), (6, kp), (7, kp), (8, kp)], [(2, [.own 1000200 44 f_, .own 1000201 46 b_, .own 1000202 9 Ty.str, .dow 1000203 91 [9, 101, 9, 9] dJ, kp]), (3, [kp, kp, kp, kp, kp, kp]), (4, k5), (6, [kp, kp, kp])], []⟩, [(2, ⟨[(2, kp), (3, kp), (4, kp), (5, kp)], [(2, [.own 1000200 44 f_, .own 1000201 46 b_, .own 1000202 9 Ty.str, .dow 1000203 91 [9, 101, 9, 9] dJ, kp]), (3, [kp, kp, kp, kp, kp, kp]), (4, k5)], []⟩)], n0⟩
 | _ => none
noncomputable def kV := fiO Tryz.f67 amZ
theorem akW : bZ Tryz.prog 67 kV := okO Tryz.func67 (by kernel_rfl)
def Cf (N : Nat) : List (Nat × ax) := [(70, oh N), (94, Yd N), (60, Fq N)]
def zt : ax := bJ [.sp [.mv 44 f_ none, .mv 46 b_ (some [9]), .mv 9 (.str) none, .mv 91 dJ (some [9, 101, 9, 9]), .dd ak], .d bQ true] true [.own aV true [(44, none), (46, none), (9, none), (91, (some [9, 101, 9, 9]))]]
def MG (b0 : List Foe) (b2 : List Txt) (b3 : List dm) (b4 : Int) (w : aK) (bA : Int) (i5 : Int) (hA : List bi) : St := ⟨[(2, vb 2), (3, vb 3), (4, vb 4), (5, vv ak i5)], [(2, .box [.arr 1000200, .arr 1000201, .arr 1000202, .arr 1000203, .v ak b4]), (3, bxW w), (4, .box [.emp, .emp, .emp, .emp, .v ak bA]), (1000200, .arr 44 f_ b0), (1000201, .arr 46 b_ hA), (1000202, .arr 9 Ty.str b2), (1000203, .arr 91 dJ b3 (Dp.yes [9, 101, 9, 9]))]⟩
noncomputable def O9 (N : Nat) : Env := dN (az aS) (aZ (Cf N)) bu N kV []
noncomputable def afO := (eP (az aS) kV.res (kT (a_ [aV]) zt [(600000, .mv 44 f_ none), (600001, .mv 46 b_ (some [9])), (600002, .mv 9 (.str) none), (600003, .mv 91 dJ (some [9, 101, 9, 9]))]))
noncomputable def aaB (N : Nat) (nxS0 : St → Option af) (n : Nat) : St → Option af := fun S' => nM [] (iU kV 2) (code (O9 N) (jl (jl kV.body 0 0) 0 2) 2) n S' (fQ (O9 N) (jl kV.body 0 0) 0 2 (NU [] (iU kV 0) nxS0 (fQ (O9 N) kV.body 0 0 afO)))
noncomputable def Dn (N : Nat) (nxS0 : St → Option af) (b0 : List Foe) (b2 : List Txt) (b3 : List dm) (b4 : Int) (w : aK) (bA : Int) (i5 : Int) (hC : Int) (lA : Txt) (mA : Int) (nA : Int) (n : Nat) : Int → (List bi) → Option af := fun pC hB => aaB N nxS0 n ⟨[(2, vb 2), (3, vb 3), (4, vb 4), (5, vv ak i5), (6, vb 6), (7, vv ak hC), (8, vv ak pC)], [(2, .box [.arr 1000200, .arr 1000201, .arr 1000202, .arr 1000203, .v ak b4]), (3, bxW w), (4, .box [.emp, .emp, .emp, .emp, .v ak bA]), (6, .box [.v Ty.str lA, .v ak mA, .v ak nA]), (1000200, .arr 44 f_ b0), (1000201, .arr 46 b_ hB), (1000202, .arr 9 Ty.str b2), (1000203, .arr 91 dJ b3 (Dp.yes [9, 101, 9, 9]))]⟩
theorem afI (N : Nat) (nxS0 : St → Option af) (b0 : List Foe) (b2 : List Txt) (b3 : List dm) (b4 : Int) (w : aK) (bA : Int) : Dn N nxS0 b0 b2 b3 b4 w bA = rO N (fun i5 hA => nxS0 (MG b0 b2 b3 b4 w bA i5 hA)) b0 b2 b3 b4 w bA := fx6 fun i5 hC lA mA nA => bK (by kernel_rfl) fun n => by
 show _ = tY N (fun i5 hA => nxS0 (MG b0 b2 b3 b4 w bA i5 hA)) b0 b2 b3 b4 w bA i5 hC lA mA nA (Dn N nxS0 b0 b2 b3 b4 w bA i5 hC lA mA nA n)
 kernel_rfl
noncomputable def zo (N : Nat) (n : Nat) : St → Option af := itO (O9 N) kV 0 0 afO n
noncomputable def vT (N : Nat) (b0 : List Foe) (b2 : List Txt) (b3 : List dm) (b4 : Int) (w : aK) (bA : Int) (n : Nat) : Int → (List bi) → Option af := fun i5 hA => zo N n (MG b0 b2 b3 b4 w bA i5 hA)
theorem acL (N : Nat) : vT N = ZO N := fx7 fun b0 b2 b3 b4 w bA => bK (by kernel_rfl) fun n => by
 show _ = zk N (rO N (vT N b0 b2 b3 b4 w bA n) b0 b2 b3 b4 w bA) b0 b2 b3 b4 w bA (vT N b0 b2 b3 b4 w bA n)
 rw [show rO N (vT N b0 b2 b3 b4 w bA n) b0 b2 b3 b4 w bA = Dn N (zo N n) b0 b2 b3 b4 w bA from (afI N (zo N n) b0 b2 b3 b4 w bA).symm]
 kernel_rfl
theorem aip (N : Nat) (b0 : List Foe) (b1 : List bi) (b2 : List Txt) (b3 : List dm) (b4 : Int) (w : aK) : bg (a_ [aV]) (az aS) (aZ (Cf N)) bu N kV zt [⟨.slice f_, b0⟩, ⟨.slice b_, b1⟩, ⟨aN, b2⟩, ⟨.slice dJ, b3⟩, ⟨ak, b4⟩, ⟨bQ, w⟩] = F.acf N b0 b1 b2 b3 b4 w := by
 show _ = F.aef N (F.ZO N) b0 b1 b2 b3 b4 w
 rw [← acL N]
 kernel_rfl
def aaM (N : Nat) : ax := aQ zt.ps zt.fz zt.rs [aV] (F.acf N)
theorem aia (N : Nat) : ay Tryz.prog 67 (aaM N) := aU (N := N) bz mixed (ah (l := Cf N) (aT rfl (mM N) (aT rfl (abh N) (aT rfl (IV N) trivial)))) (aO _) akW (by decide) (aip N)
noncomputable def ag4 := fiO Tryz.f29 an0
theorem auK : bZ Tryz.prog 29 ag4 := okO Tryz.func29 (by kernel_rfl)
def WO (N : Nat) : List (Nat × ax) := [(64, agA N), (25, xk N), (65, oz N), (66, uK N), (67, aaM N)]
def PV : ax := bJ [.d aV true, .d bQ true] false [.own aV true [(44, none), (46, (some [9])), (9, none), (91, (some [9, 101, 9, 9]))], .d ak false]
theorem ap9 (N : Nat) (b : af) (w : aK) : bg (a_ [aV, ak]) (az aS) (aZ (WO N)) bu N ag4 PV [⟨aV, b⟩, ⟨bQ, w⟩] = F.abd N b w := by kernel_rfl
def Yy (N : Nat) : ax := aQ PV.ps PV.fz PV.rs [aV, ak] (F.abd N)
theorem acn (N : Nat) : ay Tryz.prog 29 (Yy N) := aU (N := N) bz mixed (ah (l := WO N) (aT rfl (ana N) (aT rfl (uQ N) (aT rfl (nK N) (aT rfl (uh N) (aT rfl (aia N) trivial)))))) (aO _) auK (by decide) (ap9 N)
noncomputable def QL := fiO Tryz.f14 an0
theorem aau : bZ Tryz.prog 14 QL := okO Tryz.func14 (by kernel_rfl)
def WG (N m : Nat) : ax := aQ [.d ak false] false [.d (.str) false] [.str] (F.m_ N m)
def mf (N : Nat) : ax := aQ [.d ak false] false [.d (.str) false] [.str] (F.jO N)
def NT (N : Nat) : List (Nat × ax) := []
def Nz (N m : Nat) : List (Nat × ax) := [(14, WG N m)]
def Ag : ax := bJ [.d ak false] false [.d (.str) false]
theorem aeR (N : Nat) (n : Int) : bg (a_ [.str]) (az aS) (aZ (NT N)) bu N QL Ag [⟨ak, n⟩] = F.m_ N 0 n := by kernel_rfl
theorem adP (N m : Nat) (n : Int) : bg (a_ [.str]) (az aS) (aZ (Nz N m)) bu N QL Ag [⟨ak, n⟩] = F.m_ N (m + 1) n := by kernel_rfl
theorem Q4 (N : Nat) : ∀ m, ay Tryz.prog 14 (WG N m)
 | 0 => aU (N := N) bz mixed (ah (l := NT N) trivial) (aO _) aau (by decide) fun n => aeR N n
 | m + 1 => aU (N := N) bz mixed (ah (l := Nz N m) (aT rfl (Q4 N m) trivial)) (aO _) aau (by decide) fun n => adP N m n
theorem kJ (N : Nat) : ay Tryz.prog 14 (mf N) := Q4 N 64
noncomputable def acr := fiO Tryz.f28 an0
theorem amF : bZ Tryz.prog 28 acr := okO Tryz.func28 (by kernel_rfl)
def TV (N : Nat) : List (Nat × ax) := [(14, mf N)]
def EQ : ax := bJ [.d aV true, .d ak false] true [.d aV true, .d (.str) false]
theorem ajK (N : Nat) (b : af) (code : Int) : bg (a_ [aV, .str]) (az aS) (aZ (TV N)) bu N acr EQ [⟨aV, b⟩, ⟨ak, code⟩] = F.uV N b code := by kernel_rfl
def abe (N : Nat) : ax := aQ EQ.ps EQ.fz EQ.rs [aV, .str] (F.uV N)
theorem ajo (N : Nat) : ay Tryz.prog 28 (abe N) := aU (N := N) bz mixed (ah (l := TV N) (aT rfl (kJ N) trivial)) (aO _) amF (by decide) (ajK N)
noncomputable def agG := fiO Tryz.f31 an0
theorem auP : bZ Tryz.prog 31 agG := okO Tryz.func31 (by kernel_rfl)
def VC (N : Nat) : List (Nat × ax) := [(63, xh N), (25, xk N), (66, uK N)]
def Oy : ax := bJ [.d aV true, .d ak false] false [.own aV true [(44, none), (46, (some [9])), (9, none), (91, (some [9, 101, 9, 9]))], .d ak false]
theorem am7 (N : Nat) (b : af) (number : Int) : bg (a_ [aV, ak]) (az aS) (aZ (VC N)) bu N agG Oy [⟨aV, b⟩, ⟨ak, number⟩] = F.akp N b number := by kernel_rfl
def YW (N : Nat) : ax := aQ Oy.ps Oy.fz Oy.rs [aV, ak] (F.akp N)
theorem ach (N : Nat) : ay Tryz.prog 31 (YW N) := aU (N := N) bz mixed (ah (l := VC N) (aT rfl (uz N) (aT rfl (uQ N) (aT rfl (uh N) trivial)))) (aO _) auP (by decide) (am7 N)
def avA : Nat → Option Ann
 | 0 => some ⟨⟨[(1, kp), (2, kp), (5, kp)], [(2, [kp, kp, kp, kp, kp, kp])], []⟩, [(0, n0)], ⟨[(4, kp)], [], []⟩⟩
 | _ => none
noncomputable def Ej := fiO Tryz.f69 avA
theorem arv : bZ Tryz.prog 69 Ej := okO Tryz.func69 (by kernel_rfl)
def J7 (N : Nat) : List (Nat × ax) := []
def DZ : ax := bJ [.d bQ true, .d ak false] false [.d (.bool) false]
noncomputable def awF (N : Nat) : Env := dN (az aS) (aZ (J7 N)) bu N Ej []
noncomputable def axU := (eP (az aS) Ej.res (kT (a_ [.bool]) DZ []))
noncomputable def ac1 (N : Nat) (n : Nat) : St → Option Bool := itO (awF N) Ej 0 0 axU n
noncomputable def XA (N : Nat) (w : aK) (moved : Int) (n : Nat) : Int → Option Bool := fun i5 => ac1 N n ⟨[(1, vv ak moved), (2, vb 2), (5, vv ak i5)], [(2, bxW w)]⟩
theorem akE (N : Nat) : XA N = adp N := fx3 fun w moved => bK (by kernel_rfl) fun n => by
 show _ = PI N w moved (XA N w moved n)
 kernel_rfl
theorem alS (N : Nat) (w : aK) (moved : Int) : bg (a_ [.bool]) (az aS) (aZ (J7 N)) bu N Ej DZ [⟨bQ, w⟩, ⟨ak, moved⟩] = F.akZ N w moved := by
 show _ = F.aqk N (F.adp N) w moved
 rw [← akE N]
 kernel_rfl
def age (N : Nat) : ax := aQ DZ.ps DZ.fz DZ.rs [.bool] (F.akZ N)
theorem amc (N : Nat) : ay Tryz.prog 69 (age N) := aU (N := N) bz mixed (ah (l := J7 N) trivial) (aO _) arv (by decide) (alS N)
noncomputable def agK := fiO Tryz.f71 an0
theorem auf : bZ Tryz.prog 71 agK := okO Tryz.func71 (by kernel_rfl)
def VG (N : Nat) : List (Nat × ax) := []
def PH : ax := bJ [.d b_ true, .d bQ true, .d dP true, .d ak false, .d (.bool) false] true [.d b_ true]
theorem al1 (N : Nat) (s : bi) (w : aK) (u : Use) (moved : Int) (done : Bool) : bg (a_ [b_]) (az aS) (aZ (VG N)) bu N agK PH [⟨b_, s⟩, ⟨bQ, w⟩, ⟨dP, u⟩, ⟨ak, moved⟩, ⟨.bool, done⟩] = F.aql N s w u moved done := by kernel_rfl
def aho (N : Nat) : ax := aQ PH.ps PH.fz PH.rs [b_] (F.aql N)
theorem ao9 (N : Nat) : ay Tryz.prog 71 (aho N) := aU (N := N) bz mixed (ah (l := VG N) trivial) (aO _) auf (by decide) (al1 N)
def au1 : Nat → Option Ann
 | 0 => some ⟨⟨[(2, kp), (3, kp), (4, kp), (8, kp), (10, kp), (11, kp), (12, kp), (13, kp)], [(4, k5), (8, k5), (10, [.own 1001000 44 f_, .own 1001001 46 b_, .own 1001002 9 Ty.str, .frz dJ, kp]), (12, [kp, kp, kp, kp, kp, kp])], []⟩, [(0, ⟨[(8, kp), (10, kp), (11, kp)], [(8, k5), (10, [.own 1001000 44 f_, .own 1001001 46 b_, .own 1001002 9 Ty.str, .frz dJ, kp])], []⟩)], n0⟩
 | _ => none
noncomputable def EX := fiO Tryz.f33 au1
theorem avr : bZ Tryz.prog 33 EX := okO Tryz.func33 (by kernel_rfl)
def Ld (N : Nat) : List (Nat × ax) := [(63, xh N), (25, xk N), (66, uK N), (69, age N), (70, oh N), (71, aho N)]
def Jh : ax := bJ [.d aV true, .d ak false, .d ak false, .d (.bool) false] false [.own aV true [(44, none), (46, (some [9])), (9, none), (91, (some [9, 101, 9, 9]))], .d ak false]
noncomputable def awE (N : Nat) : Env := dN (az aS) (aZ (Ld N)) bu N EX []
noncomputable def av6 := (eP (az aS) EX.res (kT (a_ [aV, ak]) Jh []))
noncomputable def afb (N : Nat) (n : Nat) : St → Option (af × Int) := itO (awE N) EX 0 0 av6 n
noncomputable def Vp (N : Nat) (b : af) (moved : Int) (done : Bool) (pA : af) (iC : Int) (iB : Int) (rA : Int) (sA : Int) (tA : List Txt) (uA : List Use) (vA : List Txt) (wA : List Txt) (n : Nat) : Int → (List bi) → Option (af × Int) := fun aD aC => afb N n ⟨[(2, vv ak moved), (3, vv Ty.bool done), (4, vb 4), (8, vb 8), (10, vb 10), (11, vv ak iC), (12, vb 12), (13, vv ak aD)], [(4, bxB b), (8, .box [.emp, .emp, .emp, .emp, .v ak iB]), (10, .box [.arr 1001000, .arr 1001001, .arr 1001002, .v dJ.slice pA.2.2.2.1, .v ak pA.2.2.2.2]), (12, .box [.v ak rA, .v ak sA, .v aN tA, .v dP.slice uA, .v aN vA, .v aN wA]), (1001000, .arr 44 f_ pA.1), (1001001, .arr 46 b_ aC), (1001002, .arr 9 Ty.str pA.2.2.1)]⟩
theorem akh (N : Nat) : Vp N = aeU N := ayO fun b moved done pA iC iB rA sA tA uA vA wA => bK (by kernel_rfl) fun n => by
 show _ = Hg N b moved done pA iC iB rA sA tA uA vA wA (Vp N b moved done pA iC iB rA sA tA uA vA wA n)
 kernel_rfl
theorem akV (N : Nat) (b : af) (number : Int) (moved : Int) (done : Bool) : bg (a_ [aV, ak]) (az aS) (aZ (Ld N)) bu N EX Jh [⟨aV, b⟩, ⟨ak, number⟩, ⟨ak, moved⟩, ⟨.bool, done⟩] = F.aez N b number moved done := by
 show _ = F.al4 N (F.aeU N) b number moved done
 rw [← akh N]
 kernel_rfl
def YA (N : Nat) : ax := aQ Jh.ps Jh.fz Jh.rs [aV, ak] (F.aez N)
theorem acv (N : Nat) : ay Tryz.prog 33 (YA N) := aU (N := N) bz mixed (ah (l := Ld N) (aT rfl (uz N) (aT rfl (uQ N) (aT rfl (uh N) (aT rfl (amc N) (aT rfl (mM N) (aT rfl (ao9 N) trivial))))))) (aO _) avr (by decide) (akV N)
def atw : Nat → Option Ann
 | 0 => some ⟨⟨[(0, kp), (1, kp), (5, kp), (6, kp)], [], []⟩, [(0, ⟨[(5, kp)], [], []⟩)], n0⟩
 | _ => none
noncomputable def Gn := fiO Tryz.f15 atw
theorem avy : bZ Tryz.prog 15 Gn := okO Tryz.func15 (by kernel_rfl)
def MQ (N : Nat) : List (Nat × ax) := []
def G8 : ax := bJ [.d aN false, .d (.str) false] false [.d (.str) false]
noncomputable def awe (N : Nat) : Env := dN (az aS) (aZ (MQ N)) bu N Gn []
noncomputable def avX := (eP (az aS) Gn.res (kT (a_ [.str]) G8 []))
noncomputable def afp (N : Nat) (n : Nat) : St → Option Txt := itO (awe N) Gn 0 0 avX n
noncomputable def Xu (N : Nat) (list : List Txt) (zB : Txt) (n : Nat) : Txt → Int → Option Txt := fun bC i6 => afp N n ⟨[(0, vv aN list), (1, vv Ty.str zB), (5, vv Ty.str bC), (6, vv ak i6)], []⟩
theorem akP (N : Nat) : Xu N = KE N := fx3 fun list zB => bK (by kernel_rfl) fun n => by
 show _ = AA N list zB (Xu N list zB n)
 kernel_rfl
theorem amf (N : Nat) (list : List Txt) (zB : Txt) : bg (a_ [.str]) (az aS) (aZ (MQ N)) bu N Gn G8 [⟨aN, list⟩, ⟨.str, zB⟩] = F.Dl N list zB := by
 show _ = F.avC N (F.KE N) list zB
 rw [← akP N]
 kernel_rfl
def A7 (N : Nat) : ax := aQ G8.ps G8.fz G8.rs [.str] (F.Dl N)
theorem tX (N : Nat) : ay Tryz.prog 15 (A7 N) := aU (N := N) bz mixed (ah (l := MQ N) trivial) (aO _) avy (by decide) (amf N)
noncomputable def acA := fiO Tryz.f34 an0
theorem al_ : bZ Tryz.prog 34 acA := okO Tryz.func34 (by kernel_rfl)
def TW (N : Nat) : List (Nat × ax) := [(70, oh N), (14, mf N), (15, A7 N)]
def FK : ax := bJ [.d aV true, .d (.str) false] false [.d (.str) false]
theorem aj7 (N : Nat) (b : af) (name : Txt) : bg (a_ [.str]) (az aS) (aZ (TW N)) bu N acA FK [⟨aV, b⟩, ⟨.str, name⟩] = F.aaJ N b name := by kernel_rfl
def aak (N : Nat) : ax := aQ FK.ps FK.fz FK.rs [.str] (F.aaJ N)
theorem ah_ (N : Nat) : ay Tryz.prog 34 (aak N) := aU (N := N) bz mixed (ah (l := TW N) (aT rfl (mM N) (aT rfl (kJ N) (aT rfl (tX N) trivial)))) (aO _) al_ (by decide) (aj7 N)
def atd : Nat → Option Ann
 | 0 => some ⟨⟨[(1, kp), (2, kp), (5, kp)], [(2, k5)], []⟩, [(0, n0)], ⟨[(4, kp)], [], []⟩⟩
 | _ => none
noncomputable def IW := fiO Tryz.f35 atd
theorem atq : bZ Tryz.prog 35 IW := okO Tryz.func35 (by kernel_rfl)
def Kz (N : Nat) : List (Nat × ax) := [(63, xh N), (72, oM N)]
def Io : ax := bJ [.d aV true, .d (.str) false] false [.d ak false]
noncomputable def av7 (N : Nat) : Env := dN (az aS) (aZ (Kz N)) bu N IW []
noncomputable def awX := (eP (az aS) IW.res (kT (a_ [ak]) Io []))
noncomputable def aeh (N : Nat) (n : Nat) : St → Option Int := itO (av7 N) IW 0 0 awX n
noncomputable def Vl (N : Nat) (b : af) (valve : Txt) (n : Nat) : Int → Option Int := fun i5 => aeh N n ⟨[(1, vv Ty.str valve), (2, vb 2), (5, vv ak i5)], [(2, bxB b)]⟩
theorem akm (N : Nat) : Vl N = ac2 N := fx3 fun b valve => bK (by kernel_rfl) fun n => by
 show _ = OD N b valve (Vl N b valve n)
 kernel_rfl
theorem apO (N : Nat) (b : af) (valve : Txt) : bg (a_ [ak]) (az aS) (aZ (Kz N)) bu N IW Io [⟨aV, b⟩, ⟨.str, valve⟩] = F.ajY N b valve := by
 show _ = F.apa N (F.ac2 N) b valve
 rw [← akm N]
 kernel_rfl
def agc (N : Nat) : ax := aQ Io.ps Io.fz Io.rs [ak] (F.ajY N)
theorem ak2 (N : Nat) : ay Tryz.prog 35 (agc N) := aU (N := N) bz mixed (ah (l := Kz N) (aT rfl (uz N) (aT rfl (mX N) trivial))) (aO _) atq (by decide) (apO N)
def ava : Nat → Option Ann
 | 0 => some ⟨⟨[(1, kp), (2, kp), (5, .own 700005 3 ak), (6, kp)], [(2, k5)], []⟩, [(0, ⟨[(5, .own 700005 3 ak)], [], []⟩)], n0⟩
 | _ => none
noncomputable def JC := fiO Tryz.f37 ava
theorem asX : bZ Tryz.prog 37 JC := okO Tryz.func37 (by kernel_rfl)
def KA (N : Nat) : List (Nat × ax) := [(63, xh N), (72, oM N)]
def FM : ax := bJ [.d aV true, .d (.str) false] false [.own (.slice ak) false [(3, none)]]
noncomputable def axE (N : Nat) : Env := dN (az aS) (aZ (KA N)) bu N JC []
noncomputable def av_ := (eP (az aS) JC.res (kT (a_ [.slice ak]) FM []))
noncomputable def ae1 (N : Nat) (n : Nat) : St → Option (List Int) := itO (axE N) JC 0 0 av_ n
noncomputable def VK (N : Nat) (b : af) (valve : Txt) (n : Nat) : Int → (List Int) → Option (List Int) := fun i6 zA => ae1 N n ⟨[(1, vv Ty.str valve), (2, vb 2), (5, va 700005), (6, vv ak i6)], [(2, bxB b), (700005, .arr 3 ak zA)]⟩
theorem aiP (N : Nat) : VK N = afs N := fx3 fun b valve => bK (by kernel_rfl) fun n => by
 show _ = OQ N b valve (VK N b valve n)
 kernel_rfl
theorem aqD (N : Nat) (b : af) (valve : Txt) : bg (a_ [.slice ak]) (az aS) (aZ (KA N)) bu N JC FM [⟨aV, b⟩, ⟨.str, valve⟩] = F.ajE N b valve := by
 show _ = F.akT N (F.afs N) b valve
 rw [← aiP N]
 kernel_rfl
def aht (N : Nat) : ax := aQ FM.ps FM.fz FM.rs [.slice ak] (F.ajE N)
theorem aoG (N : Nat) : ay Tryz.prog 37 (aht N) := aU (N := N) bz mixed (ah (l := KA N) (aT rfl (uz N) (aT rfl (mX N) trivial))) (aO _) asX (by decide) (aqD N)
def amj : Nat → Option Ann
 | 0 => some ⟨⟨[(0, kp), (3, .own 700003 9 Ty.str), (4, kp)], [], []⟩, [(0, ⟨[(3, .own 700003 9 Ty.str)], [], []⟩)], n0⟩
 | _ => none
noncomputable def yj := fiO Tryz.f36 amj
theorem am0 : bZ Tryz.prog 36 yj := okO Tryz.func36 (by kernel_rfl)
def CU (N : Nat) : List (Nat × ax) := [(14, mf N), (15, A7 N)]
def zL : ax := bJ [.d (.slice ak) false] false [.d (.str) false]
noncomputable def asI (N : Nat) : Env := dN (az aS) (aZ (CU N)) bu N yj []
noncomputable def auG := (eP (az aS) yj.res (kT (a_ [.str]) zL []))
noncomputable def aaz (N : Nat) (n : Nat) : St → Option Txt := itO (asI N) yj 0 0 auG n
noncomputable def RH (N : Nat) (list : List Int) (n : Nat) : Int → (List Txt) → Option Txt := fun i4 aA => aaz N n ⟨[(0, vv ak.slice list), (3, va 700003), (4, vv ak i4)], [(700003, .arr 9 Ty.str aA)]⟩
theorem ae2 (N : Nat) : RH N = Yr N := fx2 fun list => bK (by kernel_rfl) fun n => by
 show _ = Jp N list (RH N list n)
 kernel_rfl
theorem ah1 (N : Nat) (list : List (Int)) : bg (a_ [.str]) (az aS) (aZ (CU N)) bu N yj zL [⟨.slice ak, list⟩] = F.XM N list := by
 show _ = F.adl N (F.Yr N) list
 rw [← ae2 N]
 kernel_rfl
def abL (N : Nat) : ax := aQ zL.ps zL.fz zL.rs [.str] (F.XM N)
theorem aig (N : Nat) : ay Tryz.prog 36 (abL N) := aU (N := N) bz mixed (ah (l := CU N) (aT rfl (kJ N) (aT rfl (tX N) trivial))) (aO _) am0 (by decide) (ah1 N)
def ak0 : Nat → Option Ann
 | 1000002 => some ⟨n0, [], n0⟩
 | 1000004 => some ⟨n0, [], n0⟩
 | 1000006 => some ⟨n0, [], n0⟩
 | 1000010 => some ⟨n0, [], n0⟩
 | 1000012 => some ⟨n0, [], n0⟩
 | 1000014 => some ⟨n0, [], n0⟩
 | 1000016 => some ⟨n0, [], n0⟩
 | 1000018 => some ⟨n0, [], n0⟩
 | 1000020 => some ⟨n0, [], n0⟩
 | 1000022 => some ⟨n0, [], n0⟩
 | 1000024 => some ⟨n0, [], n0⟩
 | _ => none
noncomputable def abC := fiO Tryz.f9 ak0
theorem alU : bZ Tryz.prog 9 abC := okO Tryz.func9 (by kernel_rfl)
def Su (N : Nat) : List (Nat × ax) := [(23, aaV N), (24, aah N), (25, xk N), (26, Ei N), (27, IK N), (30, aaT N), (29, Yy N), (28, abe N), (32, FP N), (31, YW N), (33, YA N), (34, aak N), (35, agc N), (14, mf N), (37, aht N), (36, abL N)]
def Iw : ax := bJ [.d aV true, .d aN false] true [.d aV true, .d (.str) false]
theorem aij (N : Nat) (b : af) (ws : List Txt) : bg (a_ [aV, .str]) (az aS) (aZ (Su N)) bu N abC Iw [⟨aV, b⟩, ⟨aN, ws⟩] = F.Xd N b ws := by kernel_rfl
def aaK (N : Nat) : ax := aQ Iw.ps Iw.fz Iw.rs [aV, .str] (F.Xd N)
theorem akB (N : Nat) : ay Tryz.prog 9 (aaK N) := aU (N := N) bz mixed (ah (l := Su N) (aT rfl (akC N) (aT rfl (aiR N) (aT rfl (uQ N) (aT rfl (H_ N) (aT rfl (Nq N) (aT rfl (aky N) (aT rfl (acn N) (aT rfl (ajo N) (aT rfl (EE N) (aT rfl (ach N) (aT rfl (acv N) (aT rfl (ah_ N) (aT rfl (ak2 N) (aT rfl (kJ N) (aT rfl (aoG N) (aT rfl (aig N) trivial))))))))))))))))) (aO _) alU (by decide) (aij N)
def arJ : Nat → Option Ann
 | 0 => some ⟨⟨[(3, kp), (4, kp), (5, kp), (6, kp)], [(4, [.frz f_, .frz b_, .frz Ty.str, .frz dJ, kp])], []⟩, [(0, ⟨[(5, kp)], [], []⟩)], n0⟩
 | _ => none
noncomputable def G9 := fiO Tryz.f5 arJ
theorem arQ : bZ Tryz.prog 5 G9 := okO Tryz.func5 (by kernel_rfl)
def MJ (N : Nat) : List (Nat × ax) := [(8, EN N), (9, aaK N)]
def JA : ax := bJ [.d (.str) false] false [.d (.str) false]
noncomputable def axP (N : Nat) : Env := dN (az aS) (aZ (MJ N)) bu N G9 []
noncomputable def axk := (eP (az aS) G9.res (kT (a_ [.str]) JA []))
noncomputable def ad1 (N : Nat) (n : Nat) : St → Option Txt := itO (axP N) G9 0 0 axk n
noncomputable def XC (N : Nat) (oA : List Txt) (n : Nat) : Txt → Int → (List Foe) → (List bi) → (List Txt) → (List dm) → Int → Option Txt := fun bC i6 qC rC sC tC uC => ad1 N n ⟨[(3, vv aN oA), (4, vb 4), (5, vv Ty.str bC), (6, vv ak i6)], [(4, .box [.v f_.slice qC, .v b_.slice rC, .v aN sC, .v dJ.slice tC, .v ak uC])]⟩
theorem ah8 (N : Nat) : XC N = CV N := fx2 fun oA => bK (by kernel_rfl) fun n => by
 show _ = Bc N oA (XC N oA n)
 kernel_rfl
theorem apD (N : Nat) (text : Txt) : bg (a_ [.str]) (az aS) (aZ (MJ N)) bu N G9 JA [⟨.str, text⟩] = F.aaG N text := by
 show _ = F.anG N (F.CV N) text
 rw [← ah8 N]
 kernel_rfl
def agM (N : Nat) : ax := aQ JA.ps JA.fz JA.rs [.str] (F.aaG N)
theorem arf (N : Nat) : ay Tryz.prog 5 (agM N) := aU (N := N) bz mixed (ah (l := MJ N) (aT rfl (KR N) (aT rfl (akB N) trivial))) (aO _) arQ (by decide) (apD N)
noncomputable def agt := fiO Tryz.f76 an0
theorem aur : bZ Tryz.prog 76 agt := okO Tryz.func76 (by kernel_rfl)
def Wv (N : Nat) : List (Nat × ax) := []
def Py : ax := bJ [.d (.slice f_) false] false [.own (.slice f_) false [(44, none)]]
theorem aqs (N : Nat) (s : List Foe) : bg (a_ [.slice f_]) (az aS) (aZ (Wv N)) bu N agt Py [⟨.slice f_, s⟩] = F.anD N s := by kernel_rfl
def ahM (N : Nat) : ax := aQ Py.ps Py.fz Py.rs [.slice f_] (F.anD N)
theorem apw (N : Nat) : ay Tryz.prog 76 (ahM N) := aU (N := N) bz mixed (ah (l := Wv N) trivial) (aO _) aur (by decide) (aqs N)
noncomputable def ag_ := fiO Tryz.f77 an0
theorem auw : bZ Tryz.prog 77 ag_ := okO Tryz.func77 (by kernel_rfl)
def Vb (N : Nat) : List (Nat × ax) := []
def PO : ax := bJ [.d aN false] false [.own aN false [(9, none)]]
theorem aq2 (N : Nat) (s : List Txt) : bg (a_ [aN]) (az aS) (aZ (Vb N)) bu N ag_ PO [⟨aN, s⟩] = F.U3 N s := by kernel_rfl
def P6 (N : Nat) : ax := aQ PO.ps PO.fz PO.rs [aN] (F.U3 N)
theorem UA (N : Nat) : ay Tryz.prog 77 (P6 N) := aU (N := N) bz mixed (ah (l := Vb N) trivial) (aO _) auw (by decide) (aq2 N)
noncomputable def agy := fiO Tryz.f112 an0
theorem atv : bZ Tryz.prog 112 agy := okO Tryz.func112 (by kernel_rfl)
def VY (N : Nat) : List (Nat × ax) := []
def QC : ax := bJ [.d (.slice dP) false] false [.own (.slice dP) false [(101, none)]]
theorem aoF (N : Nat) (s : List Use) : bg (a_ [.slice dP]) (az aS) (aZ (VY N)) bu N agy QC [⟨.slice dP, s⟩] = F.apk N s := by kernel_rfl
def ahS (N : Nat) : ax := aQ QC.ps QC.fz QC.rs [.slice dP] (F.apk N)
theorem amY (N : Nat) : ay Tryz.prog 112 (ahS N) := aU (N := N) bz mixed (ah (l := VY N) trivial) (aO _) atv (by decide) (aoF N)
noncomputable def ahk := fiO Tryz.f78 an0
theorem avz : bZ Tryz.prog 78 ahk := okO Tryz.func78 (by kernel_rfl)
def VB (N : Nat) : List (Nat × ax) := [(77, P6 N), (112, ahS N)]
def Pj : ax := bJ [.d bQ true] false [.own bQ true [(9, none), (101, none), (9, none), (9, none)]]
theorem aod (N : Nat) (w : aK) : bg (a_ [bQ]) (az aS) (aZ (VB N)) bu N ahk Pj [⟨bQ, w⟩] = F.ac5 N w := by kernel_rfl
def YL (N : Nat) : ax := aQ Pj.ps Pj.fz Pj.rs [bQ] (F.ac5 N)
theorem acw (N : Nat) : ay Tryz.prog 78 (YL N) := aU (N := N) bz mixed (ah (l := VB N) (aT rfl (UA N) (aT rfl (amY N) trivial))) (aO _) avz (by decide) (aod N)
def as3 : Nat → Option Ann
 | 0 => some ⟨⟨[(1, kp), (2, kp), (3, kp), (18, kp), (19, kp), (20, kp)], [(1, k5), (2, k5), (3, [.own 1000300 44 f_, .dow 1000301 46 [9] b_, .own 1000302 9 Ty.str, kp, kp])], []⟩, [(0, ⟨[(1, kp), (2, kp), (3, kp)], [(1, k5), (2, k5), (3, [.own 1000300 44 f_, .dow 1000301 46 [9] b_, .own 1000302 9 Ty.str, kp, kp])], []⟩)], n0⟩
 | 2 => some ⟨⟨[(2, kp), (3, kp), (36, kp), (37, kp), (38, kp)], [(2, k5), (3, [.own 1000300 44 f_, .dow 1000301 46 [9] b_, .own 1000302 9 Ty.str, .dow 1000303 91 [9, 101, 9, 9] dJ, kp])], []⟩, [(2, ⟨[(2, kp), (3, kp)], [(2, k5), (3, [.own 1000300 44 f_, .dow 1000301 46 [9] b_, .own 1000302 9 Ty.str, .dow 1000303 91 [9, 101, 9, 9] dJ, kp])], []⟩)], n0⟩
 | _ => none
noncomputable def Bj := fiO Tryz.f39 as3
theorem aty : bZ Tryz.prog 39 Bj := okO Tryz.func39 (by kernel_rfl)
def KP (N : Nat) : List (Nat × ax) := [(76, ahM N), (77, P6 N), (78, YL N)]
def Fg : ax := bJ [.d aV true] false [.own aV true [(44, none), (46, (some [9])), (9, none), (91, (some [9, 101, 9, 9]))]]
noncomputable def amP (N : Nat) : Env := dN (az aS) (aZ (KP N)) bu N Bj []
noncomputable def aq5 := (eP (az aS) Bj.res (kT (a_ [aV]) Fg []))
noncomputable def aeO (N : Nat) (n : Nat) : St → Option af := itO (amP N) Bj 0 2 aq5 n
noncomputable def Lt (N : Nat) (b : af) (r : List Foe) (pA : List Txt) (dA : Int) (eA : List bi) (jC : Int) (n : Nat) : Int → (List dm) → Option af := fun bD jB => aeO N n ⟨[(2, vb 2), (3, vb 3), (36, vv dJ.slice b.2.2.2.1), (37, vv ak jC), (38, vv ak bD)], [(2, .box [.emp, .emp, .emp, .emp, .v ak dA]), (3, .box [.arr 1000300, .arr 1000301, .arr 1000302, .arr 1000303, .v ak b.2.2.2.2]), (1000300, .arr 44 f_ r), (1000301, .arr 46 b_ eA (Dp.yes [9])), (1000302, .arr 9 Ty.str pA), (1000303, .arr 91 dJ jB (Dp.yes [9, 101, 9, 9]))]⟩
theorem ajI (N : Nat) : Lt N = QS N := fx7 fun b r pA dA eA jC => bK (by kernel_rfl) fun n => by
 show _ = Ql N b r pA dA eA jC (Lt N b r pA dA eA jC n)
 kernel_rfl
noncomputable def aeE (N : Nat) (n : Nat) : St → Option af := itO (amP N) Bj 0 0 aq5 n
noncomputable def Vh (N : Nat) (b : af) (r : List Foe) (pA : List Txt) (kC : Int) (dA : Int) (n : Nat) : Int → (List bi) → Option af := fun cD eA => aeE N n ⟨[(1, vb 1), (2, vb 2), (3, vb 3), (18, vv b_.slice b.2.1), (19, vv ak kC), (20, vv ak cD)], [(1, bxB b), (2, .box [.emp, .emp, .emp, .emp, .v ak dA]), (3, .box [.arr 1000300, .arr 1000301, .arr 1000302, .emp, .v ak b.2.2.2.2]), (1000300, .arr 44 f_ r), (1000301, .arr 46 b_ eA (Dp.yes [9])), (1000302, .arr 9 Ty.str pA)]⟩
theorem akQ (N : Nat) : Vh N = aeK N := fx6 fun b r pA kC dA => bK (by kernel_rfl) fun n => by
 show _ = OJ N (QS N) b r pA kC dA (Vh N b r pA kC dA n)
 rw [show QS N = Lt N from (ajI N).symm]
 kernel_rfl
theorem apm (N : Nat) (b : af) : bg (a_ [aV]) (az aS) (aZ (KP N)) bu N Bj Fg [⟨aV, b⟩] = F.abZ N b := by
 show _ = F.ak4 N (F.aeK N) b
 rw [← akQ N]
 kernel_rfl
def F8 (N : Nat) : ax := aQ Fg.ps Fg.fz Fg.rs [aV] (F.abZ N)
theorem Fh (N : Nat) : ay Tryz.prog 39 (F8 N) := aU (N := N) bz mixed (ah (l := KP N) (aT rfl (apw N) (aT rfl (UA N) (aT rfl (acw N) trivial)))) (aO _) aty (by decide) (apm N)
noncomputable def acz := fiO Tryz.f80 an0
theorem aoE : bZ Tryz.prog 80 acz := okO Tryz.func80 (by kernel_rfl)
def Ue (N : Nat) : List (Nat × ax) := []
def Eu : ax := bJ [.d ak false, .d ak false, .d ak false] false [.d (.bool) false]
theorem ako (N : Nat) (n : Int) (low : Int) (high : Int) : bg (a_ [.bool]) (az aS) (aZ (Ue N)) bu N acz Eu [⟨ak, n⟩, ⟨ak, low⟩, ⟨ak, high⟩] = F.mJ N n low high := by kernel_rfl
def yV (N : Nat) : ax := aQ Eu.ps Eu.fz Eu.rs [.bool] (F.mJ N)
theorem Bg (N : Nat) : ay Tryz.prog 80 (yV N) := aU (N := N) bz mixed (ah (l := Ue N) trivial) (aO _) aoE (by decide) (ako N)
def anw : Nat → Option Ann
 | 0 => some ⟨⟨[(0, kp), (3, kp)], [], []⟩, [(0, n0)], ⟨[(2, kp)], [], []⟩⟩
 | _ => none
noncomputable def zQ := fiO Tryz.f114 anw
theorem aog : bZ Tryz.prog 114 zQ := okO Tryz.func114 (by kernel_rfl)
def DR (N : Nat) : List (Nat × ax) := [(80, yV N)]
def Ad : ax := bJ [.d (.str) false] false [.d (.bool) false]
noncomputable def avx (N : Nat) : Env := dN (az aS) (aZ (DR N)) bu N zQ []
noncomputable def auq := (eP (az aS) zQ.res (kT (a_ [.bool]) Ad []))
noncomputable def abU (N : Nat) (n : Nat) : St → Option Bool := itO (avx N) zQ 0 0 auq n
noncomputable def Sr (N : Nat) (s : Txt) (n : Nat) : Int → Option Bool := fun i3 => abU N n ⟨[(0, vv Ty.str s), (3, vv ak i3)], []⟩
theorem aeP (N : Nat) : Sr N = Yv N := fx2 fun s => bK (by kernel_rfl) fun n => by
 show _ = Ec N s (Sr N s n)
 kernel_rfl
theorem akk (N : Nat) (s : Txt) : bg (a_ [.bool]) (az aS) (aZ (DR N)) bu N zQ Ad [⟨.str, s⟩] = F.Ir N s := by
 show _ = F.adF N (F.Yv N) s
 rw [← aeP N]
 kernel_rfl
def JD (N : Nat) : ax := aQ Ad.ps Ad.fz Ad.rs [.bool] (F.Ir N)
theorem Lu (N : Nat) : ay Tryz.prog 114 (JD N) := aU (N := N) bz mixed (ah (l := DR N) (aT rfl (Bg N) trivial)) (aO _) aog (by decide) (akk N)
def apU : Nat → Option Ann
 | 0 => some ⟨⟨[(0, kp), (11, kp), (12, kp), (13, kp)], [], []⟩, [(0, n0)], ⟨[(4, kp)], [], []⟩⟩
 | _ => none
noncomputable def Aj := fiO Tryz.f113 apU
theorem aqf : bZ Tryz.prog 113 Aj := okO Tryz.func113 (by kernel_rfl)
def CB (N : Nat) : List (Nat × ax) := [(114, JD N)]
def Au : ax := bJ [.d aN false, .d ak false] false [.d (.bool) false]
noncomputable def asY (N : Nat) : Env := dN (az aS) (aZ (CB N)) bu N Aj []
noncomputable def arF := (eP (az aS) Aj.res (kT (a_ [.bool]) Au []))
noncomputable def Z5 (N : Nat) (n : Nat) : St → Option Bool := itO (asY N) Aj 0 0 arF n
noncomputable def SC (N : Nat) (l : List Txt) (qA : Int) (n : Nat) : Int → Option Bool := fun gC => Z5 N n ⟨[(0, vv aN l), (11, vv aN l), (12, vv ak qA), (13, vv ak gC)], []⟩
theorem adx (N : Nat) : SC N = Y2 N := fx3 fun l qA => bK (by kernel_rfl) fun n => by
 show _ = Gm N l qA (SC N l qA n)
 kernel_rfl
theorem ajM (N : Nat) (l : List Txt) (most : Int) : bg (a_ [.bool]) (az aS) (aZ (CB N)) bu N Aj Au [⟨aN, l⟩, ⟨ak, most⟩] = F.yX N l most := by
 show _ = F.adw N (F.Y2 N) l most
 rw [← adx N]
 kernel_rfl
def RZ (N : Nat) : ax := aQ Au.ps Au.fz Au.rs [.bool] (F.yX N)
theorem VU (N : Nat) : ay Tryz.prog 113 (RZ N) := aU (N := N) bz mixed (ah (l := CB N) (aT rfl (Lu N) trivial)) (aO _) aqf (by decide) (ajM N)
noncomputable def agI := fiO Tryz.f115 an0
theorem aso : bZ Tryz.prog 115 agI := okO Tryz.func115 (by kernel_rfl)
def VE (N : Nat) : List (Nat × ax) := []
def Pz : ax := bJ [.d f_ true, .d f_ true] false [.d (.bool) false]
theorem anz (N : Nat) (f : Foe) (g : Foe) : bg (a_ [.bool]) (az aS) (aZ (VE N)) bu N agI Pz [⟨f_, f⟩, ⟨f_, g⟩] = F.ap3 N f g := by kernel_rfl
def agW (N : Nat) : ax := aQ Pz.ps Pz.fz Pz.rs [.bool] (F.ap3 N)
theorem ao6 (N : Nat) : ay Tryz.prog 115 (agW N) := aU (N := N) bz mixed (ah (l := VE N) trivial) (aO _) aso (by decide) (anz N)
def asq : Nat → Option Ann
 | 0 => some ⟨⟨[(0, kp), (1, kp), (7, kp), (8, kp)], [], []⟩, [(0, n0)], ⟨[(4, kp)], [], []⟩⟩
 | _ => none
noncomputable def Fj := fiO Tryz.f139 asq
theorem asl : bZ Tryz.prog 139 Fj := okO Tryz.func139 (by kernel_rfl)
def Kr (N : Nat) : List (Nat × ax) := []
def H9 : ax := bJ [.d aN false, .d (.str) false] false [.d ak false]
noncomputable def axI (N : Nat) : Env := dN (az aS) (aZ (Kr N)) bu N Fj []
noncomputable def axA := (eP (az aS) Fj.res (kT (a_ [ak]) H9 []))
noncomputable def ac_ (N : Nat) (n : Nat) : St → Option Int := itO (axI N) Fj 0 0 axA n
noncomputable def Xa (N : Nat) (s : List Txt) (v : Txt) (t7 : Int) (n : Nat) : Int → Option Int := fun t8 => ac_ N n ⟨[(0, vv aN s), (1, vv Ty.str v), (7, vv ak t7), (8, vv ak t8)], []⟩
theorem ai9 (N : Nat) : Xa N = adB N := fx4 fun s v t7 => bK (by kernel_rfl) fun n => by
 show _ = OV N s v t7 (Xa N s v t7 n)
 kernel_rfl
theorem aqG (N : Nat) (s : List Txt) (v : Txt) : bg (a_ [ak]) (az aS) (aZ (Kr N)) bu N Fj H9 [⟨aN, s⟩, ⟨.str, v⟩] = F.aoo N s v := by
 show _ = F.anN N (F.adB N) s v
 rw [← ai9 N]
 kernel_rfl
def agR (N : Nat) : ax := aQ H9.ps H9.fz H9.rs [ak] (F.aoo N)
theorem ard (N : Nat) : ay Tryz.prog 139 (agR N) := aU (N := N) bz mixed (ah (l := Kr N) trivial) (aO _) asl (by decide) (aqG N)
noncomputable def aga := fiO Tryz.f93 an0
theorem asQ : bZ Tryz.prog 93 aga := okO Tryz.func93 (by kernel_rfl)
def We (N : Nat) : List (Nat × ax) := [(139, agR N)]
def Ot : ax := bJ [.d aN false, .d (.str) false] false [.d (.bool) false]
theorem aob (N : Nat) (s : List Txt) (v : Txt) : bg (a_ [.bool]) (az aS) (aZ (We N)) bu N aga Ot [⟨aN, s⟩, ⟨.str, v⟩] = F.Gt N s v := by kernel_rfl
def AY (N : Nat) : ax := aQ Ot.ps Ot.fz Ot.rs [.bool] (F.Gt N)
theorem xZ (N : Nat) : ay Tryz.prog 93 (AY N) := aU (N := N) bz mixed (ah (l := We N) (aT rfl (ard N) trivial)) (aO _) asQ (by decide) (aob N)
def as7 : Nat → Option Ann
 | 0 => some ⟨⟨[(1, kp), (2, kp), (10, kp), (11, kp), (12, kp)], [], []⟩, [(0, n0)], ⟨[(6, kp)], [], []⟩⟩
 | _ => none
noncomputable def H5 := fiO Tryz.f116 as7
theorem atG : bZ Tryz.prog 116 H5 := okO Tryz.func116 (by kernel_rfl)
def Ko (N : Nat) : List (Nat × ax) := [(93, AY N)]
def IQ : ax := bJ [.d aV true, .d aN false, .d aN false] false [.d (.bool) false]
noncomputable def ax9 (N : Nat) : Env := dN (az aS) (aZ (Ko N)) bu N H5 []
noncomputable def awG := (eP (az aS) H5.res (kT (a_ [.bool]) IQ []))
noncomputable def adm (N : Nat) (n : Nat) : St → Option Bool := itO (ax9 N) H5 0 0 awG n
noncomputable def Xz (N : Nat) (b : af) (x : List Txt) (y : List Txt) (lC : Int) (n : Nat) : Int → Option Bool := fun qA => adm N n ⟨[(1, vv aN x), (2, vv aN y), (10, vv f_.slice b.1), (11, vv ak lC), (12, vv ak qA)], []⟩
theorem aiC (N : Nat) : Xz N = afc N := fx5 fun b x y lC => bK (by kernel_rfl) fun n => by
 show _ = PR N b x y lC (Xz N b x y lC n)
 kernel_rfl
theorem akS (N : Nat) (b : af) (x : List Txt) (y : List Txt) : bg (a_ [.bool]) (az aS) (aZ (Ko N)) bu N H5 IQ [⟨aV, b⟩, ⟨aN, x⟩, ⟨aN, y⟩] = F.Yh N b x y := by
 show _ = F.an7 N (F.afc N) b x y
 rw [← aiC N]
 kernel_rfl
def Yq (N : Nat) : ax := aQ IQ.ps IQ.fz IQ.rs [.bool] (F.Yh N)
theorem aaf (N : Nat) : ay Tryz.prog 116 (Yq N) := aU (N := N) bz mixed (ah (l := Ko N) (aT rfl (xZ N) trivial)) (aO _) atG (by decide) (akS N)
noncomputable def afM := fiO Tryz.f179 an0
theorem ati : bZ Tryz.prog 179 afM := okO Tryz.func179 (by kernel_rfl)
def Va (N : Nat) : List (Nat × ax) := [(93, AY N)]
def Po : ax := bJ [.d (.str) false, .bx aN] true [.d (.bool) false]
theorem anc (N : Nat) (s : Txt) (p1 : List Txt) : bg (a_ [.bool, aN]) (az aS) (aZ (Va N)) bu N afM Po [⟨.str, s⟩, ⟨aN, p1⟩] = F.amX N s p1 := by kernel_rfl
def ahL (N : Nat) : ax := aQ Po.ps Po.fz Po.rs [.bool, aN] (F.amX N)
theorem al6 (N : Nat) : ay Tryz.prog 179 (ahL N) := aU (N := N) bz mixed (ah (l := Va N) (aT rfl (xZ N) trivial)) (aO _) ati (by decide) (anc N)
def auC : Nat → Option Ann
 | 0 => some ⟨⟨[(0, kp), (1, kp), (7, kp), (8, kp)], [(500001, [kp])], []⟩, [(0, ⟨[], [(500001, [kp])], []⟩)], ⟨[(4, kp)], [(500001, [kp])], []⟩⟩
 | _ => none
noncomputable def wZ := fiO Tryz.f183 auC
theorem atl : bZ Tryz.prog 183 wZ := okO Tryz.func183 (by kernel_rfl)
def Md (N : Nat) : List (Nat × ax) := [(179, ahL N)]
def E8 : ax := bJ [.d aN false, .cl 179 [aN]] true [.d ak false]
noncomputable def alq (N : Nat) : Env := dN (az aS) (aZ (Md N)) bu N wZ [500001]
noncomputable def aw5 := (eP (az aS) wZ.res (kT (a_ [ak, aN]) E8 [(500001, .bx aN)]))
noncomputable def aey (N : Nat) (n : Nat) : St → Option (Int × List Txt) := fun S' => nM [500001] (iU wZ 0) (code (alq N) (jl wZ.body 0 0) 0) n S' (fQ (alq N) wZ.body 0 0 aw5)
noncomputable def XO (N : Nat) (s : List Txt) (t7 : Int) (n : Nat) : Int → (List Txt) → Option (Int × List Txt) := fun t8 iA => aey N n ⟨[(0, vv aN s), (1, AV.w (V1.one (C.fn 179 [500001]))), (7, vv ak t7), (8, vv ak t8)], [(500001, .box [.v aN iA])]⟩
theorem aiV (N : Nat) : XO N = adL N := fx3 fun s t7 => bK (by kernel_rfl) fun n => by
 show _ = OA N s t7 (XO N s t7 n)
 kernel_rfl
theorem alD (N : Nat) (s : List Txt) (p1 : List Txt) : bg (a_ [ak, aN]) (az aS) (aZ (Md N)) bu N wZ E8 [⟨aN, s⟩, ⟨aN, p1⟩] = F.amB N s p1 := by
 show _ = F.apT N (F.adL N) s p1
 rw [← aiV N]
 kernel_rfl
def ahe (N : Nat) : ax := aQ E8.ps E8.fz E8.rs [ak, aN] (F.amB N)
theorem apx (N : Nat) : ay Tryz.prog 183 (ahe N) := aU (N := N) bz mixed (ah (l := Md N) (aT rfl (al6 N) trivial)) (aO _) atl (by decide) (alD N)
noncomputable def an3 := fiO Tryz.f165 an0
theorem avU : bZ Tryz.prog 165 an3 := okO Tryz.func165 (by kernel_rfl)
def aaS (N : Nat) : List (Nat × ax) := [(18000183, ahe N)]
def Zq : ax := bJ [.d aN false, .cl 179 [aN]] true [.d (.bool) false]
theorem ato (N : Nat) (s : List Txt) (p1 : List Txt) : bg (a_ [.bool, aN]) (az aS) (aZ (aaS N)) bu N an3 Zq [⟨aN, s⟩, ⟨aN, p1⟩] = F.f_9 N s p1 := by kernel_rfl
def arc (N : Nat) : ax := aQ Zq.ps Zq.fz Zq.rs [.bool, aN] (F.f_9 N)
theorem at6 (N : Nat) : ay Tryz.prog 165 (arc N) := aU (N := N) bz mixed (ah (l := aaS N) (aT rfl (apx N) trivial)) (aO _) avU (by decide) (ato N)
noncomputable def ahT := fiO Tryz.f156 an0
theorem arx : bZ Tryz.prog 156 ahT := okO Tryz.func156 (by kernel_rfl)
def XR (N : Nat) : List (Nat × ax) := [(18000165, arc N)]
def OZ : ax := bJ [.d aN false, .d aN false] false [.d (.bool) false]
theorem apE (N : Nat) (a : List Txt) (b : List Txt) : bg (a_ [.bool]) (az aS) (aZ (XR N)) bu N ahT OZ [⟨aN, a⟩, ⟨aN, b⟩] = F.abq N a b := by kernel_rfl
def Zz (N : Nat) : ax := aQ OZ.ps OZ.fz OZ.rs [.bool] (F.abq N)
theorem abM (N : Nat) : ay Tryz.prog 156 (Zz N) := aU (N := N) bz mixed (ah (l := XR N) (aT rfl (at6 N) trivial)) (aO _) arx (by decide) (apE N)
def atM : Nat → Option Ann
 | 0 => some ⟨⟨[(1, kp), (3, kp), (40, kp), (41, kp), (42, kp)], [(1, [kp, kp, kp, kp, kp, kp])], []⟩, [(0, ⟨[(1, kp), (3, kp)], [(1, [kp, kp, kp, kp, kp, kp])], []⟩)], ⟨[(2, kp)], [], []⟩⟩
 | _ => none
noncomputable def IZ := fiO Tryz.f123 atM
theorem ast : bZ Tryz.prog 123 IZ := okO Tryz.func123 (by kernel_rfl)
def Nk (N : Nat) : List (Nat × ax) := [(80, yV N), (113, RZ N), (114, JD N), (156, Zz N)]
def EF : ax := bJ [.d bQ true] false [.d (.bool) false]
noncomputable def aya (N : Nat) : Env := dN (az aS) (aZ (Nk N)) bu N IZ []
noncomputable def axQ := (eP (az aS) IZ.res (kT (a_ [.bool]) EF []))
noncomputable def ad_ (N : Nat) (n : Nat) : St → Option Bool := itO (aya N) IZ 0 0 axQ n
noncomputable def Wj (N : Nat) (w : aK) (xA : Bool) (kB : Int) (n : Nat) : Int → Option Bool := fun vC => ad_ N n ⟨[(1, vb 1), (3, vv Ty.bool xA), (40, vv dP.slice w.2.2.2.1), (41, vv ak kB), (42, vv ak vC)], [(1, bxW w)]⟩
theorem aiQ (N : Nat) : Wj N = ZA N := fx4 fun w xA kB => bK (by kernel_rfl) fun n => by
 show _ = A8 N w xA kB (Wj N w xA kB n)
 kernel_rfl
theorem amW (N : Nat) (w : aK) : bg (a_ [.bool]) (az aS) (aZ (Nk N)) bu N IZ EF [⟨bQ, w⟩] = F.aka N w := by
 show _ = F.aoi N (F.ZA N) w
 rw [← aiQ N]
 kernel_rfl
def YR (N : Nat) : ax := aQ EF.ps EF.fz EF.rs [.bool] (F.aka N)
theorem ZZ (N : Nat) : ay Tryz.prog 123 (YR N) := aU (N := N) bz mixed (ah (l := Nk N) (aT rfl (Bg N) (aT rfl (VU N) (aT rfl (Lu N) (aT rfl (abM N) trivial))))) (aO _) ast (by decide) (amW N)
noncomputable def ahf := fiO Tryz.f90 an0
theorem atj : bZ Tryz.prog 90 ahf := okO Tryz.func90 (by kernel_rfl)
def WT (N : Nat) : List (Nat × ax) := []
def Qr : ax := bJ [.d b_ true, .bx (.str)] true [.d (.bool) false]
theorem ao0 (N : Nat) (s : bi) (p1 : Txt) : bg (a_ [.bool, .str]) (az aS) (aZ (WT N)) bu N ahf Qr [⟨b_, s⟩, ⟨.str, p1⟩] = F.auU N s p1 := by kernel_rfl
def ahr (N : Nat) : ax := aQ Qr.ps Qr.fz Qr.rs [.bool, .str] (F.auU N)
theorem anS (N : Nat) : ay Tryz.prog 90 (ahr N) := aU (N := N) bz mixed (ah (l := WT N) trivial) (aO _) atj (by decide) (ao0 N)
def awz : Nat → Option Ann
 | 0 => some ⟨⟨[(0, kp), (1, kp), (7, kp), (8, kp)], [(500001, [kp])], []⟩, [(0, ⟨[], [(500001, [kp])], []⟩)], ⟨[(4, kp)], [(500001, [kp])], []⟩⟩
 | _ => none
noncomputable def DV := fiO Tryz.f89 awz
theorem awD : bZ Tryz.prog 89 DV := okO Tryz.func89 (by kernel_rfl)
def RP (N : Nat) : List (Nat × ax) := [(90, ahr N)]
def Ri : ax := bJ [.d (.slice b_) false, .cl 90 [.str]] true [.d ak false]
noncomputable def avQ (N : Nat) : Env := dN (az aS) (aZ (RP N)) bu N DV [500001]
noncomputable def ayn := (eP (az aS) DV.res (kT (a_ [ak, .str]) Ri [(500001, .bx (.str))]))
noncomputable def aku (N : Nat) (n : Nat) : St → Option (Int × Txt) := fun S' => nM [500001] (iU DV 0) (code (avQ N) (jl DV.body 0 0) 0) n S' (fQ (avQ N) DV.body 0 0 ayn)
noncomputable def abH (N : Nat) (s : List bi) (t7 : Int) (n : Nat) : Int → Txt → Option (Int × Txt) := fun t8 iA => aku N n ⟨[(0, vv b_.slice s), (1, AV.w (V1.one (C.fn 90 [500001]))), (7, vv ak t7), (8, vv ak t8)], [(500001, .box [.v Ty.str iA])]⟩
theorem arl (N : Nat) : abH N = aqM N := fx3 fun s t7 => bK (by kernel_rfl) fun n => by
 show _ = Y0 N s t7 (abH N s t7 n)
 kernel_rfl
theorem atp (N : Nat) (s : List bi) (p1 : Txt) : bg (a_ [ak, .str]) (az aS) (aZ (RP N)) bu N DV Ri [⟨.slice b_, s⟩, ⟨.str, p1⟩] = F.f_3 N s p1 := by
 show _ = F.aw2 N (F.aqM N) s p1
 rw [← arl N]
 kernel_rfl
def ald (N : Nat) : ax := aQ Ri.ps Ri.fz Ri.rs [ak, .str] (F.f_3 N)
theorem auJ (N : Nat) : ay Tryz.prog 89 (ald N) := aU (N := N) bz mixed (ah (l := RP N) (aT rfl (anS N) trivial)) (aO _) awD (by decide) (atp N)
noncomputable def ahA := fiO Tryz.f51 an0
theorem auo : bZ Tryz.prog 51 ahA := okO Tryz.func51 (by kernel_rfl)
def Xo (N : Nat) : List (Nat × ax) := [(9100089, ald N)]
def Qp : ax := bJ [.d aV true, .d (.str) false] false [.d ak false]
theorem aoU (N : Nat) (b : af) (n : Txt) : bg (a_ [ak]) (az aS) (aZ (Xo N)) bu N ahA Qp [⟨aV, b⟩, ⟨.str, n⟩] = F.IX N b n := by kernel_rfl
def wX (N : Nat) : ax := aQ Qp.ps Qp.fz Qp.rs [ak] (F.IX N)
theorem uM (N : Nat) : ay Tryz.prog 51 (wX N) := aU (N := N) bz mixed (ah (l := Xo N) (aT rfl (auJ N) trivial)) (aO _) auo (by decide) (aoU N)
noncomputable def ahb := fiO Tryz.f166 an0
theorem auh : bZ Tryz.prog 166 ahb := okO Tryz.func166 (by kernel_rfl)
def VH (N : Nat) : List (Nat × ax) := [(93, AY N)]
def Qo : ax := bJ [.d (.str) false, .bx aN] true [.d (.bool) false]
theorem aqb (N : Nat) (s : Txt) (p1 : List Txt) : bg (a_ [.bool, aN]) (az aS) (aZ (VH N)) bu N ahb Qo [⟨.str, s⟩, ⟨aN, p1⟩] = F.apH N s p1 := by kernel_rfl
def agL (N : Nat) : ax := aQ Qo.ps Qo.fz Qo.rs [.bool, aN] (F.apH N)
theorem ank (N : Nat) : ay Tryz.prog 166 (agL N) := aU (N := N) bz mixed (ah (l := VH N) (aT rfl (xZ N) trivial)) (aO _) auh (by decide) (aqb N)
def avn : Nat → Option Ann
 | 0 => some ⟨⟨[(0, kp), (1, kp), (7, kp), (8, kp)], [(500001, [kp])], []⟩, [(0, ⟨[], [(500001, [kp])], []⟩)], ⟨[(4, kp)], [(500001, [kp])], []⟩⟩
 | _ => none
noncomputable def vU := fiO Tryz.f183 avn
theorem avk : bZ Tryz.prog 183 vU := okO Tryz.func183 (by kernel_rfl)
def Nj (N : Nat) : List (Nat × ax) := [(166, agL N)]
def Ee : ax := bJ [.d aN false, .cl 166 [aN]] true [.d ak false]
noncomputable def amk (N : Nat) : Env := dN (az aS) (aZ (Nj N)) bu N vU [500001]
noncomputable def awl := (eP (az aS) vU.res (kT (a_ [ak, aN]) Ee [(500001, .bx aN)]))
noncomputable def adb (N : Nat) (n : Nat) : St → Option (Int × List Txt) := fun S' => nM [500001] (iU vU 0) (code (amk N) (jl vU.body 0 0) 0) n S' (fQ (amk N) vU.body 0 0 awl)
noncomputable def V5 (N : Nat) (s : List Txt) (t7 : Int) (n : Nat) : Int → (List Txt) → Option (Int × List Txt) := fun t8 iA => adb N n ⟨[(0, vv aN s), (1, AV.w (V1.one (C.fn 166 [500001]))), (7, vv ak t7), (8, vv ak t8)], [(500001, .box [.v aN iA])]⟩
theorem aiM (N : Nat) : V5 N = acM N := fx3 fun s t7 => bK (by kernel_rfl) fun n => by
 show _ = Qa N s t7 (V5 N s t7 n)
 kernel_rfl
theorem al3 (N : Nat) (s : List Txt) (p1 : List Txt) : bg (a_ [ak, aN]) (az aS) (aZ (Nj N)) bu N vU Ee [⟨aN, s⟩, ⟨aN, p1⟩] = F.anZ N s p1 := by
 show _ = F.alg N (F.acM N) s p1
 rw [← aiM N]
 kernel_rfl
def agj (N : Nat) : ax := aQ Ee.ps Ee.fz Ee.rs [ak, aN] (F.anZ N)
theorem aqh (N : Nat) : ay Tryz.prog 183 (agj N) := aU (N := N) bz mixed (ah (l := Nj N) (aT rfl (ank N) trivial)) (aO _) avk (by decide) (al3 N)
noncomputable def aha := fiO Tryz.f165 an0
theorem auI : bZ Tryz.prog 165 aha := okO Tryz.func165 (by kernel_rfl)
def V7 (N : Nat) : List (Nat × ax) := [(16700183, agj N)]
def PP : ax := bJ [.d aN false, .cl 166 [aN]] true [.d (.bool) false]
theorem ami (N : Nat) (s : List Txt) (p1 : List Txt) : bg (a_ [.bool, aN]) (az aS) (aZ (V7 N)) bu N aha PP [⟨aN, s⟩, ⟨aN, p1⟩] = F.auz N s p1 := by kernel_rfl
def agQ (N : Nat) : ax := aQ PP.ps PP.fz PP.rs [.bool, aN] (F.auz N)
theorem aqF (N : Nat) : ay Tryz.prog 165 (agQ N) := aU (N := N) bz mixed (ah (l := V7 N) (aT rfl (aqh N) trivial)) (aO _) auI (by decide) (ami N)
noncomputable def ahI := fiO Tryz.f129 an0
theorem asN : bZ Tryz.prog 129 ahI := okO Tryz.func129 (by kernel_rfl)
def XX (N : Nat) : List (Nat × ax) := [(16700165, agQ N)]
def Qi : ax := bJ [.d aN false, .d aN false] false [.d (.bool) false]
theorem anp (N : Nat) (a : List Txt) (b : List Txt) : bg (a_ [.bool]) (az aS) (aZ (XX N)) bu N ahI Qi [⟨aN, a⟩, ⟨aN, b⟩] = F.JF N a b := by kernel_rfl
def Pv (N : Nat) : ax := aQ Qi.ps Qi.fz Qi.rs [.bool] (F.JF N)
theorem QY (N : Nat) : ay Tryz.prog 129 (Pv N) := aU (N := N) bz mixed (ah (l := XX N) (aT rfl (aqF N) trivial)) (aO _) asN (by decide) (anp N)
def arV : Nat → Option Ann
 | 0 => some ⟨⟨[(2, kp), (3, kp), (8, kp), (9, kp), (10, kp)], [(2, k5), (3, [kp, kp, kp, kp, kp, kp])], []⟩, [(0, ⟨[(2, kp), (3, kp)], [(2, k5), (3, [kp, kp, kp, kp, kp, kp])], []⟩)], ⟨[(4, kp)], [], []⟩⟩
 | _ => none
noncomputable def Ih := fiO Tryz.f124 arV
theorem asy : bZ Tryz.prog 124 Ih := okO Tryz.func124 (by kernel_rfl)
def JR (N : Nat) : List (Nat × ax) := [(51, wX N), (129, Pv N)]
def IP : ax := bJ [.d aV true, .d bQ true] false [.d (.bool) false]
noncomputable def awk (N : Nat) : Env := dN (az aS) (aZ (JR N)) bu N Ih []
noncomputable def avZ := (eP (az aS) Ih.res (kT (a_ [.bool]) IP []))
noncomputable def adh (N : Nat) (n : Nat) : St → Option Bool := itO (awk N) Ih 0 0 avZ n
noncomputable def WM (N : Nat) (b : af) (w : aK) (t9 : Int) (n : Nat) : Int → Option Bool := fun dD => adh N n ⟨[(2, vb 2), (3, vb 3), (8, vv dP.slice w.2.2.2.1), (9, vv ak t9), (10, vv ak dD)], [(2, bxB b), (3, bxW w)]⟩
theorem ai6 (N : Nat) : WM N = aeF N := fx4 fun b w t9 => bK (by kernel_rfl) fun n => by
 show _ = OW N b w t9 (WM N b w t9 n)
 kernel_rfl
theorem anF (N : Nat) (b : af) (w : aK) : bg (a_ [.bool]) (az aS) (aZ (JR N)) bu N Ih IP [⟨aV, b⟩, ⟨bQ, w⟩] = F.ajW N b w := by
 show _ = F.aq7 N (F.aeF N) b w
 rw [← ai6 N]
 kernel_rfl
def Y_ (N : Nat) : ax := aQ IP.ps IP.fz IP.rs [.bool] (F.ajW N)
theorem abD (N : Nat) : ay Tryz.prog 124 (Y_ N) := aU (N := N) bz mixed (ah (l := JR N) (aT rfl (uM N) (aT rfl (QY N) trivial))) (aO _) asy (by decide) (anF N)
def atO : Nat → Option Ann
 | 0 => some ⟨⟨[(2, kp), (5, kp), (28, kp), (29, kp), (30, kp)], [(2, k5), (5, [kp, kp, kp, kp, kp, kp])], []⟩, [(0, n0)], ⟨[(4, kp)], [], []⟩⟩
 | _ => none
noncomputable def D_ := fiO Tryz.f117 atO
theorem asZ : bZ Tryz.prog 117 D_ := okO Tryz.func117 (by kernel_rfl)
def Lc (N : Nat) : List (Nat × ax) := [(123, YR N), (124, Y_ N), (51, wX N), (129, Pv N)]
def Ff : ax := bJ [.d aV true, .d dJ true] false [.d (.bool) false]
noncomputable def axJ (N : Nat) : Env := dN (az aS) (aZ (Lc N)) bu N D_ []
noncomputable def axK := (eP (az aS) D_.res (kT (a_ [.bool]) Ff []))
noncomputable def ad3 (N : Nat) (n : Nat) : St → Option Bool := itO (axJ N) D_ 0 0 axK n
noncomputable def VI (N : Nat) (b : af) (p : dm) (mC : Int) (n : Nat) : Int → Option Bool := fun eD => ad3 N n ⟨[(2, vb 2), (5, vb 5), (28, vv dP.slice p.1.2.2.2.1), (29, vv ak mC), (30, vv ak eD)], [(2, bxB b), (5, bxW p.1)]⟩
theorem ai0 (N : Nat) : VI N = ae6 N := fx4 fun b p mC => bK (by kernel_rfl) fun n => by
 show _ = P_ N b p mC (VI N b p mC n)
 kernel_rfl
theorem amr (N : Nat) (b : af) (p : dm) : bg (a_ [.bool]) (az aS) (aZ (Lc N)) bu N D_ Ff [⟨aV, b⟩, ⟨dJ, p⟩] = F.akD N b p := by
 show _ = F.apz N (F.ae6 N) b p
 rw [← ai0 N]
 kernel_rfl
def ag6 (N : Nat) : ax := aQ Ff.ps Ff.fz Ff.rs [.bool] (F.akD N)
theorem amH (N : Nat) : ay Tryz.prog 117 (ag6 N) := aU (N := N) bz mixed (ah (l := Lc N) (aT rfl (ZZ N) (aT rfl (abD N) (aT rfl (uM N) (aT rfl (QY N) trivial))))) (aO _) asZ (by decide) (amr N)
noncomputable def ahh := fiO Tryz.f155 an0
theorem auy : bZ Tryz.prog 155 ahh := okO Tryz.func155 (by kernel_rfl)
def XF (N : Nat) : List (Nat × ax) := []
def Pi : ax := bJ [.d dP true, .bx dP] true [.d (.bool) false]
theorem ap6 (N : Nat) (v : Use) (p1 : Use) : bg (a_ [.bool, dP]) (az aS) (aZ (XF N)) bu N ahh Pi [⟨dP, v⟩, ⟨dP, p1⟩] = F.auV N v p1 := by kernel_rfl
def afZ (N : Nat) : ax := aQ Pi.ps Pi.fz Pi.rs [.bool, dP] (F.auV N)
theorem an_ (N : Nat) : ay Tryz.prog 155 (afZ N) := aU (N := N) bz mixed (ah (l := XF N) trivial) (aO _) auy (by decide) (ap6 N)
def axd : Nat → Option Ann
 | 0 => some ⟨⟨[(0, kp), (1, kp), (7, kp), (8, kp)], [(500001, [kp, kp, kp])], []⟩, [(0, ⟨[], [(500001, [kp, kp, kp])], []⟩)], ⟨[(4, kp)], [(500001, [kp, kp, kp])], []⟩⟩
 | _ => none
noncomputable def DF := fiO Tryz.f178 axd
theorem axS : bZ Tryz.prog 178 DF := okO Tryz.func178 (by kernel_rfl)
def Tn (N : Nat) : List (Nat × ax) := [(155, afZ N)]
def Uz : ax := bJ [.d (.slice dP) false, .cl 155 [dP]] true [.d ak false]
noncomputable def avM (N : Nat) : Env := dN (az aS) (aZ (Tn N)) bu N DF [500001]
noncomputable def ayi := (eP (az aS) DF.res (kT (a_ [ak, dP]) Uz [(500001, .bx dP)]))
noncomputable def ajz (N : Nat) (n : Nat) : St → Option (Int × Use) := fun S' => nM [500001] (iU DF 0) (code (avM N) (jl DF.body 0 0) 0) n S' (fQ (avM N) DF.body 0 0 ayi)
noncomputable def acI (N : Nat) (s : List Use) (t7 : Int) (n : Nat) : Int → Txt → Int → Int → Option (Int × Use) := fun t8 iA cC dC => ajz N n ⟨[(0, vv dP.slice s), (1, AV.w (V1.one (C.fn 155 [500001]))), (7, vv ak t7), (8, vv ak t8)], [(500001, .box [.v Ty.str iA, .v ak cC, .v ak dC])]⟩
theorem alV (N : Nat) : acI N = ane N := fx3 fun s t7 => bK (by kernel_rfl) fun n => by
 show _ = Q8 N s t7 (acI N s t7 n)
 kernel_rfl
theorem as4 (N : Nat) (s : List Use) (p1 : Use) : bg (a_ [ak, dP]) (az aS) (aZ (Tn N)) bu N DF Uz [⟨.slice dP, s⟩, ⟨dP, p1⟩] = F.f_8 N s p1 := by
 show _ = F.axr N (F.ane N) s p1
 rw [← alV N]
 kernel_rfl
def amR (N : Nat) : ax := aQ Uz.ps Uz.fz Uz.rs [ak, dP] (F.f_8 N)
theorem auX (N : Nat) : ay Tryz.prog 178 (amR N) := aU (N := N) bz mixed (ah (l := Tn N) (aT rfl (an_ N) trivial)) (aO _) axS (by decide) (as4 N)
noncomputable def aqd := fiO Tryz.f153 an0
theorem awC : bZ Tryz.prog 153 aqd := okO Tryz.func153 (by kernel_rfl)
def abb (N : Nat) : List (Nat × ax) := [(15600178, amR N)]
def Zd : ax := bJ [.d (.slice dP) false, .cl 155 [dP]] true [.d (.bool) false]
theorem as9 (N : Nat) (s : List Use) (p1 : Use) : bg (a_ [.bool, dP]) (az aS) (aZ (abb N)) bu N aqd Zd [⟨.slice dP, s⟩, ⟨dP, p1⟩] = F.f_4 N s p1 := by kernel_rfl
def apc (N : Nat) : ax := aQ Zd.ps Zd.fz Zd.rs [.bool, dP] (F.f_4 N)
theorem asr (N : Nat) : ay Tryz.prog 153 (apc N) := aU (N := N) bz mixed (ah (l := abb N) (aT rfl (auX N) trivial)) (aO _) awC (by decide) (as9 N)
noncomputable def afW := fiO Tryz.f154 an0
theorem arz : bZ Tryz.prog 154 afW := okO Tryz.func154 (by kernel_rfl)
def WU (N : Nat) : List (Nat × ax) := [(15600153, apc N)]
def Pn : ax := bJ [.d dP true, .bx bQ] true [.d (.bool) false]
theorem apu (N : Nat) (u : Use) (p1 : aK) : bg (a_ [.bool, bQ]) (az aS) (aZ (WU N)) bu N afW Pn [⟨dP, u⟩, ⟨bQ, p1⟩] = F.ah5 N u p1 := by kernel_rfl
def agq (N : Nat) : ax := aQ Pn.ps Pn.fz Pn.rs [.bool, bQ] (F.ah5 N)
theorem aqO (N : Nat) : ay Tryz.prog 154 (agq N) := aU (N := N) bz mixed (ah (l := WU N) (aT rfl (asr N) trivial)) (aO _) arz (by decide) (apu N)
def atu : Nat → Option Ann
 | 0 => some ⟨⟨[(0, kp), (1, kp), (7, kp), (8, kp)], [(500001, [kp, kp, kp, kp, kp, kp])], []⟩, [(0, ⟨[], [(500001, [kp, kp, kp, kp, kp, kp])], []⟩)], ⟨[(4, kp)], [(500001, [kp, kp, kp, kp, kp, kp])], []⟩⟩
 | _ => none
noncomputable def vP := fiO Tryz.f178 atu
theorem aus : bZ Tryz.prog 178 vP := okO Tryz.func178 (by kernel_rfl)
def MW (N : Nat) : List (Nat × ax) := [(154, agq N)]
def FX : ax := bJ [.d (.slice dP) false, .cl 154 [bQ]] true [.d ak false]
noncomputable def aoH (N : Nat) : Env := dN (az aS) (aZ (MW N)) bu N vP [500001]
noncomputable def axi := (eP (az aS) vP.res (kT (a_ [ak, bQ]) FX [(500001, .bx bQ)]))
noncomputable def aex (N : Nat) (n : Nat) : St → Option (Int × aK) := fun S' => nM [500001] (iU vP 0) (code (aoH N) (jl vP.body 0 0) 0) n S' (fQ (aoH N) vP.body 0 0 axi)
noncomputable def Xm (N : Nat) (s : List Use) (t7 : Int) (n : Nat) : Int → Int → Int → (List Txt) → (List Use) → (List Txt) → (List Txt) → Option (Int × aK) := fun t8 iA cC dC wC xC yC => aex N n ⟨[(0, vv dP.slice s), (1, AV.w (V1.one (C.fn 154 [500001]))), (7, vv ak t7), (8, vv ak t8)], [(500001, .box [.v ak iA, .v ak cC, .v aN dC, .v dP.slice wC, .v aN xC, .v aN yC])]⟩
theorem ake (N : Nat) : Xm N = aem N := fx3 fun s t7 => bK (by kernel_rfl) fun n => by
 show _ = F9 N s t7 (Xm N s t7 n)
 kernel_rfl
theorem alr (N : Nat) (s : List Use) (p1 : aK) : bg (a_ [ak, bQ]) (az aS) (aZ (MW N)) bu N vP FX [⟨.slice dP, s⟩, ⟨bQ, p1⟩] = F.ano N s p1 := by
 show _ = F.aly N (F.aem N) s p1
 rw [← ake N]
 kernel_rfl
def agF (N : Nat) : ax := aQ FX.ps FX.fz FX.rs [ak, bQ] (F.ano N)
theorem aqo (N : Nat) : ay Tryz.prog 178 (agF N) := aU (N := N) bz mixed (ah (l := MW N) (aT rfl (aqO N) trivial)) (aO _) aus (by decide) (alr N)
noncomputable def aqB := fiO Tryz.f153 an0
theorem ax4 : bZ Tryz.prog 153 aqB := okO Tryz.func153 (by kernel_rfl)
def aa2 (N : Nat) : List (Nat × ax) := [(15500178, agF N)]
def Zc : ax := bJ [.d (.slice dP) false, .cl 154 [bQ]] true [.d (.bool) false]
theorem atP (N : Nat) (s : List Use) (p1 : aK) : bg (a_ [.bool, bQ]) (az aS) (aZ (aa2 N)) bu N aqB Zc [⟨.slice dP, s⟩, ⟨bQ, p1⟩] = F.f_7 N s p1 := by kernel_rfl
def anb (N : Nat) : ax := aQ Zc.ps Zc.fz Zc.rs [.bool, bQ] (F.f_7 N)
theorem avv (N : Nat) : ay Tryz.prog 153 (anb N) := aU (N := N) bz mixed (ah (l := aa2 N) (aT rfl (aqo N) trivial)) (aO _) ax4 (by decide) (atP N)
noncomputable def aa6 := fiO Tryz.f118 an0
theorem apB : bZ Tryz.prog 118 aa6 := okO Tryz.func118 (by kernel_rfl)
def S9 (N : Nat) : List (Nat × ax) := [(15500153, anb N)]
def Iz : ax := bJ [.d bQ true, .d bQ true] false [.d (.bool) false]
theorem akc (N : Nat) (a : aK) (b : aK) : bg (a_ [.bool]) (az aS) (aZ (S9 N)) bu N aa6 Iz [⟨bQ, a⟩, ⟨bQ, b⟩] = F.SE N a b := by kernel_rfl
def RY (N : Nat) : ax := aQ Iz.ps Iz.fz Iz.rs [.bool] (F.SE N)
theorem XG (N : Nat) : ay Tryz.prog 118 (RY N) := aU (N := N) bz mixed (ah (l := S9 N) (aT rfl (avv N) trivial)) (aO _) apB (by decide) (akc N)
noncomputable def aas := fiO Tryz.f119 an0
theorem alC : bZ Tryz.prog 119 aas := okO Tryz.func119 (by kernel_rfl)
def Sv (N : Nat) : List (Nat × ax) := [(156, Zz N)]
def EL : ax := bJ [.d bQ true, .d bQ true] false [.d (.bool) false]
theorem air (N : Nat) (a : aK) (b : aK) : bg (a_ [.bool]) (az aS) (aZ (Sv N)) bu N aas EL [⟨bQ, a⟩, ⟨bQ, b⟩] = F.SI N a b := by kernel_rfl
def TP (N : Nat) : ax := aQ EL.ps EL.fz EL.rs [.bool] (F.SI N)
theorem Vu (N : Nat) : ay Tryz.prog 119 (TP N) := aU (N := N) bz mixed (ah (l := Sv N) (aT rfl (abM N) trivial)) (aO _) alC (by decide) (air N)
def auE : Nat → Option Ann
 | 0 => some ⟨⟨[(1, kp), (40, kp), (41, kp), (42, kp)], [(1, k5)], []⟩, [(0, ⟨[(1, kp)], [(1, k5)], []⟩)], ⟨[(2, kp)], [], []⟩⟩
 | 2 => some ⟨⟨[(1, kp), (81, kp), (82, kp), (83, kp)], [(1, k5)], []⟩, [(2, ⟨[(1, kp)], [(1, k5)], []⟩)], ⟨[(2, kp)], [], []⟩⟩
 | 4 => some ⟨⟨[(1, kp), (149, kp), (150, kp), (151, kp)], [(1, k5)], []⟩, [(4, n0)], ⟨[(2, kp)], [], []⟩⟩
 | 6 => some ⟨⟨[(1, kp), (8, kp), (149, kp), (150, kp), (151, kp), (181, kp), (182, kp), (183, kp)], [(1, k5), (8, [kp, kp, kp, kp, kp, kp, kp])], []⟩, [(6, ⟨[(1, kp), (149, kp), (150, kp), (151, kp)], [(1, k5)], []⟩)], ⟨[(2, kp)], [], []⟩⟩
 | _ => none
noncomputable def lg := fiO Tryz.f79 auE
theorem ar9 : bZ Tryz.prog 79 lg := okO Tryz.func79 (by kernel_rfl)
def JE (N : Nat) : List (Nat × ax) := [(113, RZ N), (80, yV N), (114, JD N), (115, agW N), (116, Yq N), (117, ag6 N), (118, RY N), (119, TP N)]
def Jy : ax := bJ [.d aV true] false [.d (.bool) false]
def Tz (b : af) (cA : Int) (gA : Int) : St := ⟨[(1, vb 1), (149, vv dJ.slice b.2.2.2.1), (150, vv ak cA), (151, vv ak gA)], [(1, bxB b)]⟩
noncomputable def KY (N : Nat) : Env := dN (az aS) (aZ (JE N)) bu N lg []
noncomputable def Yk := (eP (az aS) lg.res (kT (a_ [.bool]) Jy []))
noncomputable def afe (N : Nat) (nxS4 : St → Option Bool) (n : Nat) : St → Option Bool := fun S' => nM [] (iU lg 6) (code (KY N) (jl (jl lg.body 0 4) 4 6) 6) n S' (fQ (KY N) (jl lg.body 0 4) 4 6 (NU [] (iU lg 4) nxS4 (fQ (KY N) lg.body 0 4 Yk)))
noncomputable def LX (N : Nat) (nxS4 : St → Option Bool) (b : af) (cA : Int) (gA : Int) (lB : List dm) (mB : Int) (nB : Int) (oB : Int) (pB : List Txt) (qB : List Use) (rB : List Txt) (sB : List Txt) (tB : Bool) (n : Nat) : Int → Option Bool := fun zC => afe N nxS4 n ⟨[(1, vb 1), (8, vb 8), (149, vv dJ.slice b.2.2.2.1), (150, vv ak cA), (151, vv ak gA), (181, vv dJ.slice lB), (182, vv ak mB), (183, vv ak zC)], [(1, bxB b), (8, .box [.v ak nB, .v ak oB, .v aN pB, .v dP.slice qB, .v aN rB, .v aN sB, .v Ty.bool tB])]⟩
theorem aiY (N : Nat) (nxS4 : St → Option Bool) (b : af) (cA : Int) : LX N nxS4 b cA = TY N (fun gA => nxS4 (Tz b cA gA)) b cA := ayN fun gA lB mB nB oB pB qB rB sB tB => bK (by kernel_rfl) fun n => by
 show _ = OL N (fun gA => nxS4 (Tz b cA gA)) b cA gA lB mB nB oB pB qB rB sB tB (LX N nxS4 b cA gA lB mB nB oB pB qB rB sB tB n)
 kernel_rfl
noncomputable def Di (N : Nat) (n : Nat) : St → Option Bool := itO (KY N) lg 0 4 Yk n
noncomputable def ut (N : Nat) (b : af) (cA : Int) (n : Nat) : Int → Option Bool := fun gA => Di N n (Tz b cA gA)
theorem ajc (N : Nat) : ut N = JG N := fx3 fun b cA => bK (by kernel_rfl) fun n => by
 show _ = O4 N (TY N (ut N b cA n) b cA) b cA (ut N b cA n)
 rw [show TY N (ut N b cA n) b cA = LX N (Di N n) b cA from (aiY N (Di N n) b cA).symm]
 kernel_rfl
noncomputable def afd (N : Nat) (n : Nat) : St → Option Bool := itO (KY N) lg 0 2 Yk n
noncomputable def L8 (N : Nat) (b : af) (nC : Int) (n : Nat) : Int → Option Bool := fun fD => afd N n ⟨[(1, vb 1), (81, vv b_.slice b.2.1), (82, vv ak nC), (83, vv ak fD)], [(1, bxB b)]⟩
theorem ajF (N : Nat) : L8 N = JO N := fx3 fun b nC => bK (by kernel_rfl) fun n => by
 show _ = O0 N (JG N) b nC (L8 N b nC n)
 rw [show JG N = ut N from (ajc N).symm]
 kernel_rfl
noncomputable def adR (N : Nat) (n : Nat) : St → Option Bool := itO (KY N) lg 0 0 Yk n
noncomputable def W_ (N : Nat) (b : af) (kB : Int) (n : Nat) : Int → Option Bool := fun vC => adR N n ⟨[(1, vb 1), (40, vv f_.slice b.1), (41, vv ak kB), (42, vv ak vC)], [(1, bxB b)]⟩
theorem akI (N : Nat) : W_ N = YF N := fx3 fun b kB => bK (by kernel_rfl) fun n => by
 show _ = OI N (JO N) b kB (W_ N b kB n)
 rw [show JO N = L8 N from (ajF N).symm]
 kernel_rfl
theorem alx (N : Nat) (b : af) : bg (a_ [.bool]) (az aS) (aZ (JE N)) bu N lg Jy [⟨aV, b⟩] = F.UH N b := by
 show _ = F.aqY N (F.YF N) b
 rw [← akI N]
 kernel_rfl
def v_ (N : Nat) : ax := aQ Jy.ps Jy.fz Jy.rs [.bool] (F.UH N)
theorem tZ (N : Nat) : ay Tryz.prog 79 (v_ N) := aU (N := N) bz mixed (ah (l := JE N) (aT rfl (VU N) (aT rfl (Bg N) (aT rfl (Lu N) (aT rfl (ao6 N) (aT rfl (aaf N) (aT rfl (amH N) (aT rfl (XG N) (aT rfl (Vu N) trivial))))))))) (aO _) ar9 (by decide) (alx N)
noncomputable def agw := fiO Tryz.f40 an0
theorem auQ : bZ Tryz.prog 40 agw := okO Tryz.func40 (by kernel_rfl)
def VL (N : Nat) : List (Nat × ax) := [(79, v_ N)]
def Qw : ax := bJ [.bx aV, .d aV true] true [.d (.str) false]
theorem an5 (N : Nat) (s : af) (b : af) : bg (a_ [.str, aV]) (az aS) (aZ (VL N)) bu N agw Qw [⟨aV, s⟩, ⟨aV, b⟩] = F.aeS N s b := by kernel_rfl
def af8 (N : Nat) : ax := aQ Qw.ps Qw.fz Qw.rs [.str, aV] (F.aeS N)
theorem aqL (N : Nat) : ay Tryz.prog 40 (af8 N) := aU (N := N) bz mixed (ah (l := VL N) (aT rfl (tZ N) trivial)) (aO _) auQ (by decide) (an5 N)
def at7 : Nat → Option Ann
 | 0 => some ⟨⟨[(0, kp), (3, kp)], [], []⟩, [(0, ⟨[(0, kp)], [], []⟩)], ⟨[(2, kp)], [], []⟩⟩
 | _ => none
noncomputable def EP := fiO Tryz.f43 at7
theorem avc : bZ Tryz.prog 43 EP := okO Tryz.func43 (by kernel_rfl)
def Nc (N : Nat) : List (Nat × ax) := [(80, yV N), (81, oP N)]
def Jq : ax := bJ [.d (.str) false] false [.d ak false]
noncomputable def aws (N : Nat) : Env := dN (az aS) (aZ (Nc N)) bu N EP []
noncomputable def axh := (eP (az aS) EP.res (kT (a_ [ak]) Jq []))
noncomputable def acP (N : Nat) (n : Nat) : St → Option Int := itO (aws N) EP 0 0 axh n
noncomputable def WZ (N : Nat) (s : Txt) (n : Nat) : Int → Option Int := fun i3 => acP N n ⟨[(0, vv Ty.str s), (3, vv ak i3)], []⟩
theorem akO (N : Nat) : WZ N = YB N := fx2 fun s => bK (by kernel_rfl) fun n => by
 show _ = PE N s (WZ N s n)
 kernel_rfl
theorem am1 (N : Nat) (s : Txt) : bg (a_ [ak]) (az aS) (aZ (Nc N)) bu N EP Jq [⟨.str, s⟩] = F.BD N s := by
 show _ = F.ak_ N (F.YB N) s
 rw [← akO N]
 kernel_rfl
def Zb (N : Nat) : ax := aQ Jq.ps Jq.fz Jq.rs [ak] (F.BD N)
theorem abg (N : Nat) : ay Tryz.prog 43 (Zb N) := aU (N := N) bz mixed (ah (l := Nc N) (aT rfl (Bg N) (aT rfl (LK N) trivial))) (aO _) avc (by decide) (am1 N)
noncomputable def abr := fiO Tryz.f45 an0
theorem anP : bZ Tryz.prog 45 abr := okO Tryz.func45 (by kernel_rfl)
def RV (N : Nat) : List (Nat × ax) := [(10, ji N)]
def IR : ax := bJ [.d (.str) false] true [.d aN false]
theorem akA (N : Nat) (s : Txt) : bg (a_ [aN]) (az aS) (aZ (RV N)) bu N abr IR [⟨.str, s⟩] = F.rJ N s := by kernel_rfl
def RF (N : Nat) : ax := aQ IR.ps IR.fz IR.rs [aN] (F.rJ N)
theorem Wl (N : Nat) : ay Tryz.prog 45 (RF N) := aU (N := N) bz mixed (ah (l := RV N) (aT rfl (lU N) trivial)) (aO _) anP (by decide) (akA N)
def alI : Nat → Option Ann
 | 0 => some ⟨⟨[(3, .own 700003 101 dP), (14, kp), (15, kp), (16, kp)], [], []⟩, [(0, ⟨[(3, .own 700003 101 dP)], [], []⟩)], n0⟩
 | 2 => some ⟨⟨[(3, .own 700003 101 dP), (5, kp), (6, kp), (14, kp), (15, kp), (16, kp), (22, .own 700022 9 Ty.str), (23, kp), (24, kp)], [(6, [kp, kp, kp])], []⟩, [(2, ⟨[(3, .own 700003 101 dP), (6, kp), (14, kp), (15, kp), (16, kp)], [(6, [kp, kp, kp])], []⟩)], n0⟩
 | _ => none
noncomputable def kN := fiO Tryz.f48 alI
theorem aqx : bZ Tryz.prog 48 kN := okO Tryz.func48 (by kernel_rfl)
def CW (N : Nat) : List (Nat × ax) := [(45, RF N), (74, mW N), (87, qK N), (43, Zb N)]
def yL : ax := bJ [.d (.str) false] true [.d (.slice dP) false]
def MX (r : List Txt) (jA : Int) (yA : Int) (aA : List Use) : St := ⟨[(3, va 700003), (14, vv aN r), (15, vv ak jA), (16, vv ak yA)], [(700003, .arr 101 dP aA)]⟩
noncomputable def Px (N : Nat) : Env := dN (az aS) (aZ (CW N)) bu N kN []
noncomputable def afX := (eP (az aS) kN.res (kT (a_ [.slice dP]) yL []))
noncomputable def aaj (N : Nat) (nxS0 : St → Option (List Use)) (n : Nat) : St → Option (List Use) := fun S' => nM [] (iU kN 2) (code (Px N) (jl (jl kN.body 0 0) 0 2) 2) n S' (fQ (Px N) (jl kN.body 0 0) 0 2 (NU [] (iU kN 0) nxS0 (fQ (Px N) kN.body 0 0 afX)))
noncomputable def DC (N : Nat) (nxS0 : St → Option (List Use)) (r : List Txt) (jA : Int) (yA : Int) (aA : List Use) (x5 : Txt) (oC : Int) (uB : Txt) (vB : Int) (wB : Int) (xB : List Txt) (n : Nat) : Int → Option (List Use) := fun gD => aaj N nxS0 n ⟨[(3, va 700003), (5, vv Ty.str x5), (6, vb 6), (14, vv aN r), (15, vv ak jA), (16, vv ak yA), (22, va 700022), (23, vv ak oC), (24, vv ak gD)], [(6, .box [.v Ty.str uB, .v ak vB, .v ak wB]), (700003, .arr 101 dP aA), (700022, .arr 9 Ty.str xB)]⟩
theorem afL (N : Nat) (nxS0 : St → Option (List Use)) (r : List Txt) (jA : Int) : DC N nxS0 r jA = kZ N (fun yA aA => nxS0 (MX r jA yA aA)) r jA := fx9 fun yA aA x5 oC uB vB wB xB => bK (by kernel_rfl) fun n => by
 show _ = acD N (fun yA aA => nxS0 (MX r jA yA aA)) r jA yA aA x5 oC uB vB wB xB (DC N nxS0 r jA yA aA x5 oC uB vB wB xB n)
 kernel_rfl
noncomputable def zU (N : Nat) (n : Nat) : St → Option (List Use) := itO (Px N) kN 0 0 afX n
noncomputable def wP (N : Nat) (r : List Txt) (jA : Int) (n : Nat) : Int → (List Use) → Option (List Use) := fun yA aA => zU N n (MX r jA yA aA)
theorem ac4 (N : Nat) : wP N = Ya N := fx3 fun r jA => bK (by kernel_rfl) fun n => by
 show _ = FU N (kZ N (wP N r jA n) r jA) r jA (wP N r jA n)
 rw [show kZ N (wP N r jA n) r jA = DC N (zU N n) r jA from (afL N (zU N n) r jA).symm]
 kernel_rfl
theorem ajD (N : Nat) (s : Txt) : bg (a_ [.slice dP]) (az aS) (aZ (CW N)) bu N kN yL [⟨.str, s⟩] = F.RU N s := by
 show _ = F.aeT N (F.Ya N) s
 rw [← ac4 N]
 kernel_rfl
def abk (N : Nat) : ax := aQ yL.ps yL.fz yL.rs [.slice dP] (F.RU N)
theorem ajO (N : Nat) : ay Tryz.prog 48 (abk N) := aU (N := N) bz mixed (ah (l := CW N) (aT rfl (Wl N) (aT rfl (Fz N) (aT rfl (Oh N) (aT rfl (abg N) trivial))))) (aO _) aqx (by decide) (ajD N)
noncomputable def ahu := fiO Tryz.f131 an0
theorem asK : bZ Tryz.prog 131 ahu := okO Tryz.func131 (by kernel_rfl)
def WB (N : Nat) : List (Nat × ax) := []
def Qq : ax := bJ [.d dJ true, .bx ak] true [.d (.bool) false]
theorem arb (N : Nat) (p : dm) (p1 : Int) : bg (a_ [.bool, ak]) (az aS) (aZ (WB N)) bu N ahu Qq [⟨dJ, p⟩, ⟨ak, p1⟩] = F.arS N p p1 := by kernel_rfl
def af9 (N : Nat) : ax := aQ Qq.ps Qq.fz Qq.rs [.bool, ak] (F.arS N)
theorem apG (N : Nat) : ay Tryz.prog 131 (af9 N) := aU (N := N) bz mixed (ah (l := WB N) trivial) (aO _) asK (by decide) (arb N)
def avV : Nat → Option Ann
 | 0 => some ⟨⟨[(0, kp), (1, kp), (7, kp), (8, kp)], [(500001, [kp])], []⟩, [(0, ⟨[], [(500001, [kp])], []⟩)], ⟨[(4, kp)], [(500001, [kp])], []⟩⟩
 | _ => none
noncomputable def DU := fiO Tryz.f130 avV
theorem awi : bZ Tryz.prog 130 DU := okO Tryz.func130 (by kernel_rfl)
def Ru (N : Nat) : List (Nat × ax) := [(131, af9 N)]
def TA : ax := bJ [.d (.slice dJ) false, .cl 131 [ak]] true [.d ak false]
noncomputable def avO (N : Nat) : Env := dN (az aS) (aZ (Ru N)) bu N DU [500001]
noncomputable def ayg := (eP (az aS) DU.res (kT (a_ [ak, ak]) TA [(500001, .bx ak)]))
noncomputable def aiw (N : Nat) (n : Nat) : St → Option (Int × Int) := fun S' => nM [500001] (iU DU 0) (code (avO N) (jl DU.body 0 0) 0) n S' (fQ (avO N) DU.body 0 0 ayg)
noncomputable def aac (N : Nat) (s : List dm) (t7 : Int) (n : Nat) : Int → Int → Option (Int × Int) := fun t8 iA => aiw N n ⟨[(0, vv dJ.slice s), (1, AV.w (V1.one (C.fn 131 [500001]))), (7, vv ak t7), (8, vv ak t8)], [(500001, .box [.v ak iA])]⟩
theorem aln (N : Nat) : aac N = anQ N := fx3 fun s t7 => bK (by kernel_rfl) fun n => by
 show _ = X4 N s t7 (aac N s t7 n)
 kernel_rfl
theorem asF (N : Nat) (s : List dm) (p1 : Int) : bg (a_ [ak, ak]) (az aS) (aZ (Ru N)) bu N DU TA [⟨.slice dJ, s⟩, ⟨ak, p1⟩] = F.f_0 N s p1 := by
 show _ = F.axf N (F.anQ N) s p1
 rw [← aln N]
 kernel_rfl
def aqn (N : Nat) : ax := aQ TA.ps TA.fz TA.rs [ak, ak] (F.f_0 N)
theorem au8 (N : Nat) : ay Tryz.prog 130 (aqn N) := aU (N := N) bz mixed (ah (l := Ru N) (aT rfl (apG N) trivial)) (aO _) awi (by decide) (asF N)
noncomputable def agm := fiO Tryz.f85 an0
theorem atH : bZ Tryz.prog 85 agm := okO Tryz.func85 (by kernel_rfl)
def Vm (N : Nat) : List (Nat × ax) := [(13200130, aqn N)]
def O7 : ax := bJ [.d aV true, .d ak false] false [.d ak false]
theorem ama (N : Nat) (b : af) (number : Int) : bg (a_ [ak]) (az aS) (aZ (Vm N)) bu N agm O7 [⟨aV, b⟩, ⟨ak, number⟩] = F.ZM N b number := by kernel_rfl
def Gl (N : Nat) : ax := aQ O7.ps O7.fz O7.rs [ak] (F.ZM N)
theorem Eo (N : Nat) : ay Tryz.prog 85 (Gl N) := aU (N := N) bz mixed (ah (l := Vm N) (aT rfl (au8 N) trivial)) (aO _) atH (by decide) (ama N)
def as8 : Nat → Option Ann
 | 0 => some ⟨⟨[(0, kp), (1, kp), (12, kp), (13, kp)], [], []⟩, [(0, n0)], ⟨[(4, kp)], [], []⟩⟩
 | _ => none
noncomputable def ET := fiO Tryz.f163 as8
theorem au3 : bZ Tryz.prog 163 ET := okO Tryz.func163 (by kernel_rfl)
def KG (N : Nat) : List (Nat × ax) := []
def D8 : ax := bJ [.d aN false, .d aN false] false [.d (.bool) false]
noncomputable def axg (N : Nat) : Env := dN (az aS) (aZ (KG N)) bu N ET []
noncomputable def axB := (eP (az aS) ET.res (kT (a_ [.bool]) D8 []))
noncomputable def adz (N : Nat) (n : Nat) : St → Option Bool := itO (axg N) ET 0 0 axB n
noncomputable def XD (N : Nat) (s1 : List Txt) (s2 : List Txt) (qA : Int) (n : Nat) : Int → Option Bool := fun gC => adz N n ⟨[(0, vv aN s1), (1, vv aN s2), (12, vv ak qA), (13, vv ak gC)], []⟩
theorem ajV (N : Nat) : XD N = adG N := fx4 fun s1 s2 qA => bK (by kernel_rfl) fun n => by
 show _ = OG N s1 s2 qA (XD N s1 s2 qA n)
 kernel_rfl
theorem amq (N : Nat) (s1 : List Txt) (s2 : List Txt) : bg (a_ [.bool]) (az aS) (aZ (KG N)) bu N ET D8 [⟨aN, s1⟩, ⟨aN, s2⟩] = F.adD N s1 s2 := by
 show _ = F.ao8 N (F.adG N) s1 s2
 rw [← ajV N]
 kernel_rfl
def ahW (N : Nat) : ax := aQ D8.ps D8.fz D8.rs [.bool] (F.adD N)
theorem apR (N : Nat) : ay Tryz.prog 163 (ahW N) := aU (N := N) bz mixed (ah (l := KG N) trivial) (aO _) au3 (by decide) (amq N)
def avd : Nat → Option Ann
 | 0 => some ⟨⟨[(0, kp), (1, kp), (12, kp), (13, kp)], [], []⟩, [(0, n0)], ⟨[(4, kp)], [], []⟩⟩
 | _ => none
noncomputable def ER := fiO Tryz.f164 avd
theorem arG : bZ Tryz.prog 164 ER := okO Tryz.func164 (by kernel_rfl)
def KH (N : Nat) : List (Nat × ax) := []
def F5 : ax := bJ [.d (.slice dP) false, .d (.slice dP) false] false [.d (.bool) false]
noncomputable def awK (N : Nat) : Env := dN (az aS) (aZ (KH N)) bu N ER []
noncomputable def av8 := (eP (az aS) ER.res (kT (a_ [.bool]) F5 []))
noncomputable def aeN (N : Nat) (n : Nat) : St → Option Bool := itO (awK N) ER 0 0 av8 n
noncomputable def Vk (N : Nat) (s1 : List Use) (s2 : List Use) (qA : Int) (n : Nat) : Int → Option Bool := fun gC => aeN N n ⟨[(0, vv dP.slice s1), (1, vv dP.slice s2), (12, vv ak qA), (13, vv ak gC)], []⟩
theorem aiX (N : Nat) : Vk N = adJ N := fx4 fun s1 s2 qA => bK (by kernel_rfl) fun n => by
 show _ = Qk N s1 s2 qA (Vk N s1 s2 qA n)
 kernel_rfl
theorem aqV (N : Nat) (s1 : List Use) (s2 : List Use) : bg (a_ [.bool]) (az aS) (aZ (KH N)) bu N ER F5 [⟨.slice dP, s1⟩, ⟨.slice dP, s2⟩] = F.ale N s1 s2 := by
 show _ = F.aq6 N (F.adJ N) s1 s2
 rw [← aiX N]
 kernel_rfl
def ahR (N : Nat) : ax := aQ F5.ps F5.fz F5.rs [.bool] (F.ale N)
theorem an6 (N : Nat) : ay Tryz.prog 164 (ahR N) := aU (N := N) bz mixed (ah (l := KH N) trivial) (aO _) arG (by decide) (aqV N)
noncomputable def ZQ := fiO Tryz.f125 an0
theorem anv : bZ Tryz.prog 125 ZQ := okO Tryz.func125 (by kernel_rfl)
def Rt (N : Nat) : List (Nat × ax) := [(163, ahW N), (164, ahR N)]
def Ia : ax := bJ [.d bQ true, .d bQ true] false [.d (.bool) false]
theorem aj3 (N : Nat) (a : aK) (b : aK) : bg (a_ [.bool]) (az aS) (aZ (Rt N)) bu N ZQ Ia [⟨bQ, a⟩, ⟨bQ, b⟩] = F.Vz N a b := by kernel_rfl
def aat (N : Nat) : ax := aQ Ia.ps Ia.fz Ia.rs [.bool] (F.Vz N)
theorem ajy (N : Nat) : ay Tryz.prog 125 (aat N) := aU (N := N) bz mixed (ah (l := Rt N) (aT rfl (apR N) (aT rfl (an6 N) trivial))) (aO _) anv (by decide) (aj3 N)
noncomputable def ahs := fiO Tryz.f127 an0
theorem asT : bZ Tryz.prog 127 ahs := okO Tryz.func127 (by kernel_rfl)
def VR (N : Nat) : List (Nat × ax) := [(118, RY N)]
def PZ : ax := bJ [.d dJ true, .bx bQ] true [.d (.bool) false]
theorem ap_ (N : Nat) (p : dm) (p1 : aK) : bg (a_ [.bool, bQ]) (az aS) (aZ (VR N)) bu N ahs PZ [⟨dJ, p⟩, ⟨bQ, p1⟩] = F.ai7 N p p1 := by kernel_rfl
def ahD (N : Nat) : ax := aQ PZ.ps PZ.fz PZ.rs [.bool, bQ] (F.ai7 N)
theorem ao1 (N : Nat) : ay Tryz.prog 127 (ahD N) := aU (N := N) bz mixed (ah (l := VR N) (aT rfl (XG N) trivial)) (aO _) asT (by decide) (ap_ N)
end
end Go.MC
set_option maxRecDepth 100000
namespace Go.MC
open Go.Proofs Go.MC.F
noncomputable section
def axn : Nat → Option Ann
 | 0 => some ⟨⟨[(0, kp), (1, kp), (7, kp), (8, kp)], [(500001, [kp, kp, kp, kp, kp, kp])], []⟩, [(0, ⟨[], [(500001, [kp, kp, kp, kp, kp, kp])], []⟩)], ⟨[(4, kp)], [(500001, [kp, kp, kp, kp, kp, kp])], []⟩⟩
 | _ => none
noncomputable def DD := fiO Tryz.f130 axn
theorem axa : bZ Tryz.prog 130 DD := okO Tryz.func130 (by kernel_rfl)
def SV (N : Nat) : List (Nat × ax) := [(127, ahD N)]
def Um : ax := bJ [.d (.slice dJ) false, .cl 127 [bQ]] true [.d ak false]
noncomputable def avF (N : Nat) : Env := dN (az aS) (aZ (SV N)) bu N DD [500001]
noncomputable def ayB := (eP (az aS) DD.res (kT (a_ [ak, bQ]) Um [(500001, .bx bQ)]))
noncomputable def ajg (N : Nat) (n : Nat) : St → Option (Int × aK) := fun S' => nM [500001] (iU DD 0) (code (avF N) (jl DD.body 0 0) 0) n S' (fQ (avF N) DD.body 0 0 ayB)
noncomputable def abw (N : Nat) (s : List dm) (t7 : Int) (n : Nat) : Int → Int → Int → (List Txt) → (List Use) → (List Txt) → (List Txt) → Option (Int × aK) := fun t8 jC kC lC mC nC oC => ajg N n ⟨[(0, vv dJ.slice s), (1, AV.w (V1.one (C.fn 127 [500001]))), (7, vv ak t7), (8, vv ak t8)], [(500001, .box [.v ak jC, .v ak kC, .v aN lC, .v dP.slice mC, .v aN nC, .v aN oC])]⟩
theorem amU (N : Nat) : abw N = aoL N := fx3 fun s t7 => bK (by kernel_rfl) fun n => by
 show _ = Zm N s t7 (abw N s t7 n)
 kernel_rfl
theorem ate (N : Nat) (s : List dm) (p1 : aK) : bg (a_ [ak, bQ]) (az aS) (aZ (SV N)) bu N DD Um [⟨.slice dJ, s⟩, ⟨bQ, p1⟩] = F.f_5 N s p1 := by
 show _ = F.aw9 N (F.aoL N) s p1
 rw [← amU N]
 kernel_rfl
def aqQ (N : Nat) : ax := aQ Um.ps Um.fz Um.rs [ak, bQ] (F.f_5 N)
theorem asP (N : Nat) : ay Tryz.prog 130 (aqQ N) := aU (N := N) bz mixed (ah (l := SV N) (aT rfl (ao1 N) trivial)) (aO _) axa (by decide) (ate N)
noncomputable def ao5 := fiO Tryz.f126 an0
theorem axt : bZ Tryz.prog 126 ao5 := okO Tryz.func126 (by kernel_rfl)
def abE (N : Nat) : List (Nat × ax) := [(12800130, aqQ N)]
def Yu : ax := bJ [.d (.slice dJ) false, .cl 127 [bQ]] true [.d (.bool) false]
theorem ar8 (N : Nat) (s : List dm) (p1 : aK) : bg (a_ [.bool, bQ]) (az aS) (aZ (abE N)) bu N ao5 Yu [⟨.slice dJ, s⟩, ⟨bQ, p1⟩] = F.f_1 N s p1 := by kernel_rfl
def anT (N : Nat) : ax := aQ Yu.ps Yu.fz Yu.rs [.bool, bQ] (F.f_1 N)
theorem atx (N : Nat) : ay Tryz.prog 126 (anT N) := aU (N := N) bz mixed (ah (l := abE N) (aT rfl (asP N) trivial)) (aO _) axt (by decide) (ar8 N)
noncomputable def agV := fiO Tryz.f128 an0
theorem avo : bZ Tryz.prog 128 agV := okO Tryz.func128 (by kernel_rfl)
def VQ (N : Nat) : List (Nat × ax) := [(119, TP N)]
def OE : ax := bJ [.d dJ true, .bx bQ] true [.d (.bool) false]
theorem am8 (N : Nat) (p : dm) (p1 : aK) : bg (a_ [.bool, bQ]) (az aS) (aZ (VQ N)) bu N agV OE [⟨dJ, p⟩, ⟨bQ, p1⟩] = F.ai5 N p p1 := by kernel_rfl
def agh (N : Nat) : ax := aQ OE.ps OE.fz OE.rs [.bool, bQ] (F.ai5 N)
theorem amw (N : Nat) : ay Tryz.prog 128 (agh N) := aU (N := N) bz mixed (ah (l := VQ N) (aT rfl (Vu N) trivial)) (aO _) avo (by decide) (am8 N)
def awJ : Nat → Option Ann
 | 0 => some ⟨⟨[(0, kp), (1, kp), (7, kp), (8, kp)], [(500001, [kp, kp, kp, kp, kp, kp])], []⟩, [(0, ⟨[], [(500001, [kp, kp, kp, kp, kp, kp])], []⟩)], ⟨[(4, kp)], [(500001, [kp, kp, kp, kp, kp, kp])], []⟩⟩
 | _ => none
noncomputable def CJ := fiO Tryz.f130 awJ
theorem axG : bZ Tryz.prog 130 CJ := okO Tryz.func130 (by kernel_rfl)
def Ul (N : Nat) : List (Nat × ax) := [(128, agh N)]
def UC : ax := bJ [.d (.slice dJ) false, .cl 128 [bQ]] true [.d ak false]
noncomputable def avL (N : Nat) : Env := dN (az aS) (aZ (Ul N)) bu N CJ [500001]
noncomputable def ayG := (eP (az aS) CJ.res (kT (a_ [ak, bQ]) UC [(500001, .bx bQ)]))
noncomputable def aja (N : Nat) (n : Nat) : St → Option (Int × aK) := fun S' => nM [500001] (iU CJ 0) (code (avL N) (jl CJ.body 0 0) 0) n S' (fQ (avL N) CJ.body 0 0 ayG)
noncomputable def aa8 (N : Nat) (s : List dm) (t7 : Int) (n : Nat) : Int → Int → Int → (List Txt) → (List Use) → (List Txt) → (List Txt) → Option (Int × aK) := fun t8 jC kC lC mC nC oC => aja N n ⟨[(0, vv dJ.slice s), (1, AV.w (V1.one (C.fn 128 [500001]))), (7, vv ak t7), (8, vv ak t8)], [(500001, .box [.v ak jC, .v ak kC, .v aN lC, .v dP.slice mC, .v aN nC, .v aN oC])]⟩
theorem aqv (N : Nat) : aa8 N = apI N := fx3 fun s t7 => bK (by kernel_rfl) fun n => by
 show _ = Zg N s t7 (aa8 N s t7 n)
 kernel_rfl
theorem ash (N : Nat) (s : List dm) (p1 : aK) : bg (a_ [ak, bQ]) (az aS) (aZ (Ul N)) bu N CJ UC [⟨.slice dJ, s⟩, ⟨bQ, p1⟩] = F.f_6 N s p1 := by
 show _ = F.awc N (F.apI N) s p1
 rw [← aqv N]
 kernel_rfl
def anM (N : Nat) : ax := aQ UC.ps UC.fz UC.rs [ak, bQ] (F.f_6 N)
theorem auM (N : Nat) : ay Tryz.prog 130 (anM N) := aU (N := N) bz mixed (ah (l := Ul N) (aT rfl (amw N) trivial)) (aO _) axG (by decide) (ash N)
noncomputable def aq3 := fiO Tryz.f126 an0
theorem axy : bZ Tryz.prog 126 aq3 := okO Tryz.func126 (by kernel_rfl)
def Z7 (N : Nat) : List (Nat × ax) := [(12900130, anM N)]
def ZL : ax := bJ [.d (.slice dJ) false, .cl 128 [bQ]] true [.d (.bool) false]
theorem au0 (N : Nat) (s : List dm) (p1 : aK) : bg (a_ [.bool, bQ]) (az aS) (aZ (Z7 N)) bu N aq3 ZL [⟨.slice dJ, s⟩, ⟨bQ, p1⟩] = F.f_2 N s p1 := by kernel_rfl
def al9 (N : Nat) : ax := aQ ZL.ps ZL.fz ZL.rs [.bool, bQ] (F.f_2 N)
theorem aug (N : Nat) : ay Tryz.prog 126 (al9 N) := aU (N := N) bz mixed (ah (l := Z7 N) (aT rfl (auM N) trivial)) (aO _) axy (by decide) (au0 N)
noncomputable def acl := fiO Tryz.f86 an0
theorem aq_ : bZ Tryz.prog 86 acl := okO Tryz.func86 (by kernel_rfl)
def Rn (N : Nat) : List (Nat × ax) := [(77, P6 N)]
def Et : ax := bJ [.d aN false, .d aN false] false [.own aN false [(9, none)]]
theorem aid (N : Nat) (a : List Txt) (b : List Txt) : bg (a_ [aN]) (az aS) (aZ (Rn N)) aun N acl Et [⟨aN, a⟩, ⟨aN, b⟩] = F.FT N a b := by kernel_rfl
def Td (N : Nat) : ax := aQ Et.ps Et.fz Et.rs [aN] (F.FT N)
theorem Vy (N : Nat) : ay Tryz.prog 86 (Td N) := aU (N := N) bz mixed (ah (l := Rn N) (aT rfl (UA N) trivial)) af4 aq_ (by decide) (aid N)
def asv : Nat → Option Ann
 | 1 => some ⟨⟨[(2, kp), (3, kp), (67, kp), (68, kp), (69, kp)], [(2, k5), (3, [kp, kp, kp, kp, kp, kp])], []⟩, [(1, ⟨[(2, kp), (3, kp)], [(2, k5), (3, [kp, kp, kp, kp, kp, kp])], []⟩)], ⟨[(4, kp)], [], []⟩⟩
 | 3 => some ⟨⟨[(2, kp), (3, kp), (108, kp), (109, kp), (110, kp)], [(2, k5), (3, [kp, kp, kp, kp, kp, kp])], []⟩, [(3, n0)], ⟨[(4, kp)], [], []⟩⟩
 | _ => none
noncomputable def AX := fiO Tryz.f84 asv
theorem asf : bZ Tryz.prog 84 AX := okO Tryz.func84 (by kernel_rfl)
def MO (N : Nat) : List (Nat × ax) := [(79, v_ N), (123, YR N), (124, Y_ N), (85, Gl N), (125, aat N), (12800126, anT N), (12900126, al9 N), (116, Yq N), (51, wX N), (129, Pv N), (86, Td N)]
def Ea : ax := bJ [.d aV true, .d bQ true] false [.d ak false]
noncomputable def aoJ (N : Nat) : Env := dN (az aS) (aZ (MO N)) bu N AX []
noncomputable def aof := (eP (az aS) AX.res (kT (a_ [ak]) Ea []))
noncomputable def adA (N : Nat) (n : Nat) : St → Option Int := itO (aoJ N) AX 0 3 aof n
noncomputable def M_ (N : Nat) (b : af) (vB : Bool × aK) (yB : Int) (n : Nat) : Int → Option Int := fun wD => adA N n ⟨[(2, vb 2), (3, vb 3), (108, vv dP.slice vB.2.2.2.2.1), (109, vv ak yB), (110, vv ak wD)], [(2, bxB b), (3, bxW vB.2)]⟩
theorem aiH (N : Nat) : M_ N = JS N := fx4 fun b vB yB => bK (by kernel_rfl) fun n => by
 show _ = OM N b vB yB (M_ N b vB yB n)
 kernel_rfl
noncomputable def adQ (N : Nat) (n : Nat) : St → Option Int := itO (aoJ N) AX 0 1 aof n
noncomputable def XU (N : Nat) (b : af) (vB : Bool × aK) (mD : Int) (n : Nat) : Int → Option Int := fun cE => adQ N n ⟨[(2, vb 2), (3, vb 3), (67, vv dP.slice vB.2.2.2.2.1), (68, vv ak mD), (69, vv ak cE)], [(2, bxB b), (3, bxW vB.2)]⟩
theorem aiJ (N : Nat) : XU N = Uf N := fx4 fun b vB mD => bK (by kernel_rfl) fun n => by
 show _ = IE N (JS N) b vB mD (XU N b vB mD n)
 rw [show JS N = M_ N from (aiH N).symm]
 kernel_rfl
theorem aot (N : Nat) (b : af) (w : aK) : bg (a_ [ak]) (az aS) (aZ (MO N)) bu N AX Ea [⟨aV, b⟩, ⟨bQ, w⟩] = F.alJ N b w := by
 show _ = F.alT N (F.Uf N) b w
 rw [← aiJ N]
 kernel_rfl
def ahP (N : Nat) : ax := aQ Ea.ps Ea.fz Ea.rs [ak] (F.alJ N)
theorem aon (N : Nat) : ay Tryz.prog 84 (ahP N) := aU (N := N) bz mixed (ah (l := MO N) (aT rfl (tZ N) (aT rfl (ZZ N) (aT rfl (abD N) (aT rfl (Eo N) (aT rfl (ajy N) (aT rfl (atx N) (aT rfl (aug N) (aT rfl (aaf N) (aT rfl (uM N) (aT rfl (QY N) (aT rfl (Vy N) trivial)))))))))))) (aO _) asf (by decide) (aot N)
def arY : Nat → Option Ann
 | 0 => some ⟨⟨[(3, kp), (4, kp), (7, kp), (47, kp), (48, kp), (49, kp)], [(3, [kp, kp, kp, kp, kp, kp]), (4, k5), (7, [.own 1000700 44 f_, .dow 1000701 46 [9] b_, .own 1000702 9 Ty.str, .dow 1000703 91 [9, 101, 9, 9] dJ, kp])], []⟩, [(0, ⟨[(4, kp), (7, kp)], [(4, k5), (7, [.own 1000700 44 f_, .dow 1000701 46 [9] b_, .own 1000702 9 Ty.str, .dow 1000703 91 [9, 101, 9, 9] dJ, kp])], []⟩)], n0⟩
 | _ => none
noncomputable def IM := fiO Tryz.f47 arY
theorem atb : bZ Tryz.prog 47 IM := okO Tryz.func47 (by kernel_rfl)
def JU (N : Nat) : List (Nat × ax) := [(84, ahP N), (39, F8 N), (85, Gl N), (78, YL N), (51, wX N), (86, Td N)]
def EO : ax := bJ [.d aV true, .d bQ true] false [.own aV true [(44, none), (46, (some [9])), (9, none), (91, (some [9, 101, 9, 9]))], .d ak false]
noncomputable def avY (N : Nat) : Env := dN (az aS) (aZ (JU N)) bu N IM []
noncomputable def axm := (eP (az aS) IM.res (kT (a_ [aV, ak]) EO []))
noncomputable def ade (N : Nat) (n : Nat) : St → Option (af × Int) := itO (avY N) IM 0 0 axm n
noncomputable def XI (N : Nat) (w : aK) (jA : af) (nD : Int) (zB : Int) (xA : List dm) (n : Nat) : Int → (List bi) → Option (af × Int) := fun dE aC => ade N n ⟨[(3, vb 3), (4, vb 4), (7, vb 7), (47, vv dP.slice w.2.2.2.1), (48, vv ak nD), (49, vv ak dE)], [(3, bxW w), (4, .box [.emp, .emp, .emp, .emp, .v ak zB]), (7, .box [.arr 1000700, .arr 1000701, .arr 1000702, .arr 1000703, .v ak w.1]), (1000700, .arr 44 f_ jA.1), (1000701, .arr 46 b_ aC (Dp.yes [9])), (1000702, .arr 9 Ty.str jA.2.2.1), (1000703, .arr 91 dJ xA (Dp.yes [9, 101, 9, 9]))]⟩
theorem aib (N : Nat) : XI N = Ug N := fx6 fun w jA nD zB xA => bK (by kernel_rfl) fun n => by
 show _ = Jf N w jA nD zB xA (XI N w jA nD zB xA n)
 kernel_rfl
theorem aov (N : Nat) (b : af) (w : aK) : bg (a_ [aV, ak]) (az aS) (aZ (JU N)) bu N IM EO [⟨aV, b⟩, ⟨bQ, w⟩] = F.ae8 N b w := by
 show _ = F.aqt N (F.Ug N) b w
 rw [← aib N]
 kernel_rfl
def af7 (N : Nat) : ax := aQ EO.ps EO.fz EO.rs [aV, ak] (F.ae8 N)
theorem amx (N : Nat) : ay Tryz.prog 47 (af7 N) := aU (N := N) bz mixed (ah (l := JU N) (aT rfl (aon N) (aT rfl (Fh N) (aT rfl (Eo N) (aT rfl (acw N) (aT rfl (uM N) (aT rfl (Vy N) trivial))))))) (aO _) atb (by decide) (aov N)
noncomputable def ahm := fiO Tryz.f46 an0
theorem atn : bZ Tryz.prog 46 ahm := okO Tryz.func46 (by kernel_rfl)
def Vj (N : Nat) : List (Nat × ax) := [(52, kX N)]
def PM : ax := bJ [.bx aV, .d aV true, .d ak false] true [.d (.str) false]
theorem anC (N : Nat) (s : af) (b : af) (code : Int) : bg (a_ [.str, aV]) (az aS) (aZ (Vj N)) bu N ahm PM [⟨aV, s⟩, ⟨aV, b⟩, ⟨ak, code⟩] = F.LV N s b code := by kernel_rfl
def afQ (N : Nat) : ax := aQ PM.ps PM.fz PM.rs [.str, aV] (F.LV N)
theorem apr (N : Nat) : ay Tryz.prog 46 (afQ N) := aU (N := N) bz mixed (ah (l := Vj N) (aT rfl (t_ N) trivial)) (aO _) atn (by decide) (anC N)
noncomputable def agv := fiO Tryz.f49 an0
theorem ar2 : bZ Tryz.prog 49 agv := okO Tryz.func49 (by kernel_rfl)
def Vt (N : Nat) : List (Nat × ax) := [(79, v_ N), (39, F8 N), (85, Gl N)]
def PT : ax := bJ [.d aV true, .d ak false] false [.own aV true [(44, none), (46, (some [9])), (9, none), (91, (some [9, 101, 9, 9]))], .d ak false]
theorem alY (N : Nat) (b : af) (number : Int) : bg (a_ [aV, ak]) (az aS) (aZ (Vt N)) bu N agv PT [⟨aV, b⟩, ⟨ak, number⟩] = F.aq9 N b number := by kernel_rfl
def agp (N : Nat) : ax := aQ PT.ps PT.fz PT.rs [aV, ak] (F.aq9 N)
theorem amN (N : Nat) : ay Tryz.prog 49 (agp N) := aU (N := N) bz mixed (ah (l := Vt N) (aT rfl (tZ N) (aT rfl (Fh N) (aT rfl (Eo N) trivial)))) (aO _) ar2 (by decide) (alY N)
def au6 : Nat → Option Ann
 | 0 => some ⟨⟨[(2, kp), (3, kp), (4, kp), (8, kp), (10, kp), (11, kp), (12, kp), (40, kp), (41, kp), (42, kp)], [(4, k5), (8, k5), (10, [.own 1001000 44 f_, .dow 1001001 46 [9] b_, .own 1001002 9 Ty.str, .dow 1001003 91 [9, 101, 9, 9] dJ, kp]), (12, [kp, kp, kp, kp, kp, kp])], []⟩, [(0, ⟨[(2, kp), (3, kp), (4, kp), (8, kp), (10, kp), (11, kp), (12, kp)], [(4, k5), (8, [.own 1000800 44 f_, .dow 1000801 46 [9] b_, .own 1000802 9 Ty.str, .dow 1000803 91 [9, 101, 9, 9] dJ, kp]), (10, [.own 1001000 44 f_, .dow 1001001 46 [9] b_, .own 1001002 9 Ty.str, .dow 1001003 91 [9, 101, 9, 9] dJ, kp]), (12, [kp, kp, kp, kp, kp, kp])], []⟩)], ⟨[(8, kp), (9, kp)], [(8, [.own 1000800 44 f_, .dow 1000801 46 [9] b_, .own 1000802 9 Ty.str, .dow 1000803 91 [9, 101, 9, 9] dJ, kp])], []⟩⟩
 | 2 => some ⟨⟨[(2, kp), (3, kp), (8, kp), (10, kp), (12, kp), (73, kp), (74, kp), (75, kp)], [(8, [.own 1000800 44 f_, .dow 1000801 46 [9] b_, .own 1000802 9 Ty.str, .dow 1000803 91 [9, 101, 9, 9] dJ, kp]), (10, [.own 1001000 44 f_, .dow 1001001 46 [9] b_, .own 1001002 9 Ty.str, .dow 1001003 91 [9, 101, 9, 9] dJ, kp]), (12, [kp, kp, kp, kp, kp, kp])], []⟩, [(2, ⟨[(8, kp), (10, kp)], [(8, [.own 1000800 44 f_, .dow 1000801 46 [9] b_, .own 1000802 9 Ty.str, .dow 1000803 91 [9, 101, 9, 9] dJ, kp]), (10, [.own 1001000 44 f_, .dow 1001001 46 [9] b_, .own 1001002 9 Ty.str, .dow 1001003 91 [9, 101, 9, 9] dJ, kp])], []⟩)], n0⟩
 | _ => none
noncomputable def Be := fiO Tryz.f50 au6
theorem asU : bZ Tryz.prog 50 Be := okO Tryz.func50 (by kernel_rfl)
def JX (N : Nat) : List (Nat × ax) := [(79, v_ N), (39, F8 N), (85, Gl N), (51, wX N)]
def IJ : ax := bJ [.d aV true, .d ak false, .d ak false, .d (.bool) false] false [.own aV true [(44, none), (46, (some [9])), (9, none), (91, (some [9, 101, 9, 9]))], .d ak false]
noncomputable def apo (N : Nat) : Env := dN (az aS) (aZ (JX N)) aun N Be []
noncomputable def amd := (eP (az aS) Be.res (kT (a_ [aV, ak]) IJ []))
noncomputable def aen (N : Nat) (n : Nat) : St → Option (af × Int) := itO (apo N) Be 0 2 amd n
noncomputable def Nu (N : Nat) (moved : Int) (done : Bool) (jA : af) (cB : Int) (nA : Int) (oA : Int) (pA : List Txt) (kA : List Use) (qA : List Txt) (rA : List Txt) (oD : Int) (lB : List Foe) (mB : List bi) (nB : List Txt) (oB : List dm) (iA : List dm) (n : Nat) : Int → (List bi) → Option (af × Int) := fun eE jB => aen N n ⟨[(2, vv ak moved), (3, vv Ty.bool done), (8, vb 8), (10, vb 10), (12, vb 12), (73, vv dP.slice kA), (74, vv ak oD), (75, vv ak eE)], [(8, .box [.arr 1000800, .arr 1000801, .arr 1000802, .arr 1000803, .v ak cB]), (10, .box [.arr 1001000, .arr 1001001, .arr 1001002, .arr 1001003, .v ak jA.2.2.2.2]), (12, .box [.v ak nA, .v ak oA, .v aN pA, .v dP.slice kA, .v aN qA, .v aN rA]), (1000800, .arr 44 f_ lB), (1000801, .arr 46 b_ mB (Dp.yes [9])), (1000802, .arr 9 Ty.str nB), (1000803, .arr 91 dJ oB (Dp.yes [9, 101, 9, 9])), (1001000, .arr 44 f_ jA.1), (1001001, .arr 46 b_ jB (Dp.yes [9])), (1001002, .arr 9 Ty.str jA.2.2.1), (1001003, .arr 91 dJ iA (Dp.yes [9, 101, 9, 9]))]⟩
theorem akv (N : Nat) : Nu N = Zy N := ayP fun moved done jA cB nA oA pA kA qA rA oD lB mB nB oB iA => bK (by kernel_rfl) fun n => by
 show _ = Ib N moved done jA cB nA oA pA kA qA rA oD lB mB nB oB iA (Nu N moved done jA cB nA oA pA kA qA rA oD lB mB nB oB iA n)
 kernel_rfl
noncomputable def adn (N : Nat) (n : Nat) : St → Option (af × Int) := itO (apo N) Be 0 0 amd n
noncomputable def Xv (N : Nat) (b : af) (moved : Int) (done : Bool) (jA : af) (pD : Int) (qD : List Use) (rD : Int) (cB : Int) (nA : Int) (oA : Int) (pA : List Txt) (kA : List Use) (qA : List Txt) (rA : List Txt) (n : Nat) : Int → Option (af × Int) := fun fE => adn N n ⟨[(2, vv ak moved), (3, vv Ty.bool done), (4, vb 4), (8, vb 8), (10, vb 10), (11, vv ak pD), (12, vb 12), (40, vv dP.slice qD), (41, vv ak rD), (42, vv ak fE)], [(4, bxB b), (8, .box [.emp, .emp, .emp, .emp, .v ak cB]), (10, .box [.arr 1001000, .arr 1001001, .arr 1001002, .arr 1001003, .v ak jA.2.2.2.2]), (12, .box [.v ak nA, .v ak oA, .v aN pA, .v dP.slice kA, .v aN qA, .v aN rA]), (1001000, .arr 44 f_ jA.1), (1001001, .arr 46 b_ jA.2.1 (Dp.yes [9])), (1001002, .arr 9 Ty.str jA.2.2.1), (1001003, .arr 91 dJ jA.2.2.2.1 (Dp.yes [9, 101, 9, 9]))]⟩
theorem ah2 (N : Nat) : Xv N = afg N := ayM fun b moved done jA pD qD rD cB nA oA pA kA qA rA => bK (by kernel_rfl) fun n => by
 show _ = QB N (Zy N) b moved done jA pD qD rD cB nA oA pA kA qA rA (Xv N b moved done jA pD qD rD cB nA oA pA kA qA rA n)
 rw [show Zy N = Nu N from (akv N).symm]
 kernel_rfl
theorem amC (N : Nat) (b : af) (number : Int) (moved : Int) (done : Bool) : bg (a_ [aV, ak]) (az aS) (aZ (JX N)) aun N Be IJ [⟨aV, b⟩, ⟨ak, number⟩, ⟨ak, moved⟩, ⟨.bool, done⟩] = F.ah3 N b number moved done := by
 show _ = F.ame N (F.afg N) b number moved done
 rw [← ah2 N]
 kernel_rfl
def ahg (N : Nat) : ax := aQ IJ.ps IJ.fz IJ.rs [aV, ak] (F.ah3 N)
theorem aqc (N : Nat) : ay Tryz.prog 50 (ahg N) := aU (N := N) bz mixed (ah (l := JX N) (aT rfl (tZ N) (aT rfl (Fh N) (aT rfl (Eo N) (aT rfl (uM N) trivial))))) af4 asU (by decide) (amC N)
noncomputable def ZW := fiO Tryz.f53 an0
theorem anO : bZ Tryz.prog 53 ZW := okO Tryz.func53 (by kernel_rfl)
def UE (N : Nat) : List (Nat × ax) := [(92, oQ N)]
def Hr : ax := bJ [.d aN false] false [.d (.str) false]
theorem akl (N : Nat) (l : List Txt) : bg (a_ [.str]) (az aS) (aZ (UE N)) bu N ZW Hr [⟨aN, l⟩] = F.NE N l := by kernel_rfl
def aaO (N : Nat) : ax := aQ Hr.ps Hr.fz Hr.rs [.str] (F.NE N)
theorem aj0 (N : Nat) : ay Tryz.prog 53 (aaO N) := aU (N := N) bz mixed (ah (l := UE N) (aT rfl (Lh N) trivial)) (aO _) anO (by decide) (akl N)
def asJ : Nat → Option Ann
 | 0 => some ⟨⟨[(1, kp), (5, .own 700005 3 ak), (13, kp), (14, kp), (15, kp)], [], []⟩, [(0, ⟨[(5, .own 700005 3 ak)], [], []⟩)], n0⟩
 | _ => none
noncomputable def Ig := fiO Tryz.f54 asJ
theorem ase : bZ Tryz.prog 54 Ig := okO Tryz.func54 (by kernel_rfl)
def JJ (N : Nat) : List (Nat × ax) := [(79, v_ N), (93, AY N)]
def Jl : ax := bJ [.d aV true, .d (.str) false] false [.own (.slice ak) false [(3, none)]]
noncomputable def av3 (N : Nat) : Env := dN (az aS) (aZ (JJ N)) bu N Ig []
noncomputable def ax7 := (eP (az aS) Ig.res (kT (a_ [.slice ak]) Jl []))
noncomputable def aeQ (N : Nat) (n : Nat) : St → Option (List Int) := itO (av3 N) Ig 0 0 ax7 n
noncomputable def VT (N : Nat) (b : af) (valve : Txt) (sD : Int) (n : Nat) : Int → (List Int) → Option (List Int) := fun gE zC => aeQ N n ⟨[(1, vv Ty.str valve), (5, va 700005), (13, vv dJ.slice b.2.2.2.1), (14, vv ak sD), (15, vv ak gE)], [(700005, .arr 3 ak zC)]⟩
theorem akd (N : Nat) : VT N = aec N := fx4 fun b valve sD => bK (by kernel_rfl) fun n => by
 show _ = Qe N b valve sD (VT N b valve sD n)
 kernel_rfl
theorem anl (N : Nat) (b : af) (valve : Txt) : bg (a_ [.slice ak]) (az aS) (aZ (JJ N)) bu N Ig Jl [⟨aV, b⟩, ⟨.str, valve⟩] = F.amg N b valve := by
 show _ = F.alE N (F.aec N) b valve
 rw [← akd N]
 kernel_rfl
def ag0 (N : Nat) : ax := aQ Jl.ps Jl.fz Jl.rs [.slice ak] (F.amg N)
theorem apj (N : Nat) : ay Tryz.prog 54 (ag0 N) := aU (N := N) bz mixed (ah (l := JJ N) (aT rfl (tZ N) (aT rfl (xZ N) trivial))) (aO _) ase (by decide) (anl N)
def arR : Nat → Option Ann
 | 0 => some ⟨⟨[(1, kp), (11, kp), (12, kp), (13, kp)], [], []⟩, [(0, n0)], ⟨[(4, kp)], [], []⟩⟩
 | _ => none
noncomputable def Ha := fiO Tryz.f55 arR
theorem arP : bZ Tryz.prog 55 Ha := okO Tryz.func55 (by kernel_rfl)
def JZ (N : Nat) : List (Nat × ax) := [(79, v_ N), (93, AY N)]
def IU : ax := bJ [.d aV true, .d (.str) false] false [.d ak false]
noncomputable def awL (N : Nat) : Env := dN (az aS) (aZ (JZ N)) bu N Ha []
noncomputable def axC := (eP (az aS) Ha.res (kT (a_ [ak]) IU []))
noncomputable def aev (N : Nat) (n : Nat) : St → Option Int := itO (awL N) Ha 0 0 axC n
noncomputable def WE (N : Nat) (b : af) (valve : Txt) (tD : Int) (n : Nat) : Int → Option Int := fun hE => aev N n ⟨[(1, vv Ty.str valve), (11, vv dJ.slice b.2.2.2.1), (12, vv ak tD), (13, vv ak hE)], []⟩
theorem ajn (N : Nat) : WE N = acJ N := fx4 fun b valve tD => bK (by kernel_rfl) fun n => by
 show _ = PK N b valve tD (WE N b valve tD n)
 kernel_rfl
theorem aoq (N : Nat) (b : af) (valve : Txt) : bg (a_ [ak]) (az aS) (aZ (JZ N)) bu N Ha IU [⟨aV, b⟩, ⟨.str, valve⟩] = F.aqW N b valve := by
 show _ = F.alL N (F.acJ N) b valve
 rw [← ajn N]
 kernel_rfl
def af0 (N : Nat) : ax := aQ IU.ps IU.fz IU.rs [ak] (F.aqW N)
theorem akU (N : Nat) : ay Tryz.prog 55 (af0 N) := aU (N := N) bz mixed (ah (l := JZ N) (aT rfl (tZ N) (aT rfl (xZ N) trivial))) (aO _) arP (by decide) (aoq N)
def arT : Nat → Option Ann
 | 1 => some ⟨⟨[(0, kp), (5, kp), (13, .own 700013 9 Ty.str), (329, .own 700329 3 ak), (330, kp), (331, kp)], [(500000, k5), (5, [kp])], []⟩, [(1, ⟨[(0, kp), (5, kp), (13, .own 700013 9 Ty.str)], [(500000, k5), (5, [kp])], []⟩)], n0⟩
 | 1000003 => some ⟨n0, [], n0⟩
 | 1000006 => some ⟨n0, [], n0⟩
 | 1000011 => some ⟨n0, [], n0⟩
 | 1000014 => some ⟨n0, [], n0⟩
 | 1000016 => some ⟨n0, [], n0⟩
 | 1000021 => some ⟨n0, [], n0⟩
 | 1000023 => some ⟨n0, [], n0⟩
 | 1000025 => some ⟨n0, [], n0⟩
 | 1000027 => some ⟨n0, [], n0⟩
 | 1000033 => some ⟨n0, [], n0⟩
 | _ => none
noncomputable def wS := fiO Tryz.f11 arT
theorem auR : bZ Tryz.prog 11 wS := okO Tryz.func11 (by kernel_rfl)
def JM (N : Nat) : List (Nat × ax) := [(10, ji N), (39, F8 N), (40, af8 N), (4300041, jg N), (43, Zb N), (45, RF N), (44, iM N), (48, abk N), (47, af7 N), (46, afQ N), (49, agp N), (50, ahg N), (51, wX N), (53, aaO N), (54, ag0 N), (52, kX N), (55, af0 N)]
def Eh : ax := bJ [.bx aV, .d (.str) false] true [.d (.str) false]
noncomputable def ak9 (N : Nat) : Env := dN (az aS) (aZ (JM N)) bu N wS [500000]
noncomputable def awg := (eP (az aS) wS.res (kT (a_ [.str, aV]) Eh [(500000, .bx aV)]))
noncomputable def adY (N : Nat) (n : Nat) : St → Option (Txt × af) := fun S' => nM [500000] (iU wS 1) (code (ak9 N) (jl wS.body 0 1) 1) n S' (fQ (ak9 N) wS.body 0 1 awg)
noncomputable def Vq (N : Nat) (s : af) (r : List Txt) (bC : List Int) (cC : Int) (n : Nat) : Int → (List Txt) → Option (Txt × af) := fun xD yD => adY N n ⟨[(0, vb 500000), (5, vb 5), (13, va 700013), (329, va 700329), (330, vv ak cC), (331, vv ak xD)], [(500000, bxB s), (5, .box [.v aN r]), (700013, .arr 9 Ty.str yD), (700329, .arr 3 ak bC)]⟩
theorem aki (N : Nat) : Vq N = YO N := fx5 fun s r bC cC => bK (by kernel_rfl) fun n => by
 show _ = Oz N s r bC cC (Vq N s r bC cC n)
 kernel_rfl
theorem arn (N : Nat) (s : af) (line : Txt) : bg (a_ [.str, aV]) (az aS) (aZ (JM N)) bu N wS Eh [⟨aV, s⟩, ⟨.str, line⟩] = F.aj_ N s line := by
 show _ = F.arj N (F.YO N) s line
 rw [← aki N]
 kernel_rfl
def ag8 (N : Nat) : ax := aQ Eh.ps Eh.fz Eh.rs [.str, aV] (F.aj_ N)
theorem aol (N : Nat) : ay Tryz.prog 11 (ag8 N) := aU (N := N) bz mixed (ah (l := JM N) (aT rfl (lU N) (aT rfl (Fh N) (aT rfl (aqL N) (aT rfl (sW N) (aT rfl (abg N) (aT rfl (Wl N) (aT rfl (o8 N) (aT rfl (ajO N) (aT rfl (amx N) (aT rfl (apr N) (aT rfl (amN N) (aT rfl (aqc N) (aT rfl (uM N) (aT rfl (aj0 N) (aT rfl (apj N) (aT rfl (t_ N) (aT rfl (akU N) trivial)))))))))))))))))) (aO _) auR (by decide) (arn N)
def auY : Nat → Option Ann
 | 0 => some ⟨⟨[(4, kp), (5, kp), (32, kp), (33, kp), (34, kp)], [(31, [.frz f_, .frz b_, .frz Ty.str, .frz dJ, kp])], []⟩, [(0, ⟨[(5, kp)], [], []⟩)], n0⟩
 | _ => none
noncomputable def EG := fiO Tryz.f6 auY
theorem aup : bZ Tryz.prog 6 EG := okO Tryz.func6 (by kernel_rfl)
def Lj (N : Nat) : List (Nat × ax) := [(10, ji N), (11, ag8 N)]
def Fb : ax := bJ [.d (.str) false] false [.d (.str) false]
noncomputable def axz (N : Nat) : Env := dN (az aS) (aZ (Lj N)) bu N EG []
noncomputable def awP := (eP (az aS) EG.res (kT (a_ [.str]) Fb []))
noncomputable def afk (N : Nat) (n : Nat) : St → Option Txt := itO (axz N) EG 0 0 awP n
noncomputable def Xy (N : Nat) (uD : List Txt) (vD : Int) (n : Nat) : Txt → Int → (List Foe) → (List bi) → (List Txt) → (List dm) → Int → Option Txt := fun wB iE aD bD cD dD eD => afk N n ⟨[(4, vb 31), (5, vv Ty.str wB), (32, vv aN uD), (33, vv ak vD), (34, vv ak iE)], [(31, .box [.v f_.slice aD, .v b_.slice bD, .v aN cD, .v dJ.slice dD, .v ak eD])]⟩
theorem ajj (N : Nat) : Xy N = CP N := fx3 fun uD vD => bK (by kernel_rfl) fun n => by
 show _ = Bo N uD vD (Xy N uD vD n)
 kernel_rfl
theorem alc (N : Nat) (text : Txt) : bg (a_ [.str]) (az aS) (aZ (Lj N)) bu N EG Fb [⟨.str, text⟩] = F.aby N text := by
 show _ = F.ark N (F.CP N) text
 rw [← ajj N]
 kernel_rfl
def ahE (N : Nat) : ax := aQ Fb.ps Fb.fz Fb.rs [.str] (F.aby N)
theorem ang (N : Nat) : ay Tryz.prog 6 (ahE N) := aU (N := N) bz mixed (ah (l := Lj N) (aT rfl (lU N) (aT rfl (aol N) trivial))) (aO _) aup (by decide) (alc N)
noncomputable def lY := fiO Tryz.f12 an0
theorem Sz : bZ Tryz.prog 12 lY := okO Tryz.func12 (by kernel_rfl)
noncomputable def ahU := fiO Tryz.f16 an0
theorem aub : bZ Tryz.prog 16 ahU := okO Tryz.func16 (by kernel_rfl)
def WX (N : Nat) : List (Nat × ax) := []
def O1 : ax := bJ [.bx (.pair (.slice di) ak), .d ak false] true [.d ak false]
theorem an8 (N : Nat) (r : Rdr) (n : Int) : bg (a_ [ak, .pair (.slice di) ak]) (az aS) (aZ (WX N)) bu N ahU O1 [⟨.pair (.slice di) ak, r⟩, ⟨ak, n⟩] = F.gK N r n := by kernel_rfl
def lZ (N : Nat) : ax := aQ O1.ps O1.fz O1.rs [ak, .pair (.slice di) ak] (F.gK N)
theorem jW (N : Nat) : ay Tryz.prog 16 (lZ N) := aU (N := N) bz mixed (ah (l := WX N) trivial) (aO _) aub (by decide) (an8 N)
noncomputable def afY := fiO Tryz.f20 an0
theorem ar_ : bZ Tryz.prog 20 afY := okO Tryz.func20 (by kernel_rfl)
def V4 (N : Nat) : List (Nat × ax) := [(16, lZ N)]
def Pq : ax := bJ [.bx (.pair (.slice di) ak), .d aN false] true [.d (.str) false]
theorem aoy (N : Nat) (r : Rdr) (list : List Txt) : bg (a_ [.str, .pair (.slice di) ak]) (az aS) (aZ (V4 N)) bu N afY Pq [⟨.pair (.slice di) ak, r⟩, ⟨aN, list⟩] = F.BG N r list := by kernel_rfl
def Bf (N : Nat) : ax := aQ Pq.ps Pq.fz Pq.rs [.str, .pair (.slice di) ak] (F.BG N)
theorem uZ (N : Nat) : ay Tryz.prog 20 (Bf N) := aU (N := N) bz mixed (ah (l := V4 N) (aT rfl (jW N) trivial)) (aO _) ar_ (by decide) (aoy N)
def apQ : Nat → Option Ann
 | 0 => some ⟨⟨[(0, kp), (2, kp), (3, kp), (4, .own 700004 9 Ty.str), (5, kp)], [(500000, [kp, kp]), (2, k5), (3, [.frz f_, .dow 1000301 46 [9] b_, kp, kp, kp])], []⟩, [(0, ⟨[(0, kp), (2, kp), (3, kp)], [(500000, [kp, kp]), (2, k5), (3, [.frz f_, .dow 1000301 46 [9] b_, kp, kp, kp])], []⟩)], n0⟩
 | 2 => some ⟨⟨[(0, kp), (2, kp), (3, kp), (7, .own 700007 9 Ty.str), (8, kp)], [(500000, [kp, kp]), (2, k5), (3, [kp, .dow 1000301 46 [9] b_, .own 1000302 9 Ty.str, kp, kp])], []⟩, [(2, ⟨[(2, kp), (3, kp)], [(500000, [kp, kp]), (2, k5), (3, [kp, .dow 1000301 46 [9] b_, .own 1000302 9 Ty.str, kp, kp])], []⟩)], n0⟩
 | _ => none
noncomputable def kS := fiO Tryz.f13 apQ
theorem aqR : bZ Tryz.prog 13 kS := okO Tryz.func13 (by kernel_rfl)
def CG (N : Nat) : List (Nat × ax) := [(16, lZ N), (20, Bf N)]
def Ap : ax := bJ [.bx (.pair (.slice di) ak)] true [.own aV true [(4294967295, none), (46, (some [9])), (9, none), (91, (some [9, 101, 9, 9]))]]
noncomputable def OT (N : Nat) : Env := dN (az aS) (aZ (CG N)) bu N kS [500000]
noncomputable def agz := (eP (az aS) kS.res (kT (a_ [aV, .pair (.slice di) ak]) Ap [(500000, .bx (.pair (.slice di) ak))]))
noncomputable def abz (N : Nat) (n : Nat) : St → Option (af × Rdr) := fun S' => nM [500000] (iU kS 2) (code (OT N) (jl kS.body 0 2) 2) n S' (fQ (OT N) kS.body 0 2 agz)
noncomputable def CZ (N : Nat) (eB : Int) (fB : List Foe) (gB : Int) (bB : List bi) (sA : List Txt) (n : Nat) : Int → (List Int) → Int → (List Txt) → Option (af × Rdr) := fun i8 pC qC fD => abz N n ⟨[(0, vb 500000), (2, vb 2), (3, vb 3), (7, va 700007), (8, vv ak i8)], [(500000, .box [.v di.slice pC, .v ak qC]), (2, .box [.emp, .emp, .emp, .emp, .v ak eB]), (3, .box [.v f_.slice fB, .arr 1000301, .arr 1000302, .emp, .v ak gB]), (700007, .arr 9 Ty.str sA), (1000301, .arr 46 b_ bB (Dp.yes [9])), (1000302, .arr 9 Ty.str fD)]⟩
theorem acR (N : Nat) : CZ N = Bh N := fx6 fun eB fB gB bB sA => bK (by kernel_rfl) fun n => by
 show _ = zK N eB fB gB bB sA (CZ N eB fB gB bB sA n)
 kernel_rfl
noncomputable def Z9 (N : Nat) (n : Nat) : St → Option (af × Rdr) := fun S' => nM [500000] (iU kS 0) (code (OT N) (jl kS.body 0 0) 0) n S' (fQ (OT N) kS.body 0 0 agz)
noncomputable def QK (N : Nat) (eB : Int) (fB : List Foe) (gB : Int) (yA : List Txt) (n : Nat) : Int → (List Int) → Int → (List bi) → Option (af × Rdr) := fun i5 zA aB bB => Z9 N n ⟨[(0, vb 500000), (2, vb 2), (3, vb 3), (4, va 700004), (5, vv ak i5)], [(500000, .box [.v di.slice zA, .v ak aB]), (2, .box [.emp, .emp, .emp, .emp, .v ak eB]), (3, .box [.v f_.slice fB, .arr 1000301, .emp, .emp, .v ak gB]), (700004, .arr 9 Ty.str yA), (1000301, .arr 46 b_ bB (Dp.yes [9]))]⟩
theorem ad5 (N : Nat) : QK N = Qd N := fx5 fun eB fB gB yA => bK (by kernel_rfl) fun n => by
 show _ = zy N (Bh N) eB fB gB yA (QK N eB fB gB yA n)
 rw [show Bh N = CZ N from (acR N).symm]
 kernel_rfl
theorem akF (N : Nat) (r : Rdr) : bg (a_ [aV, .pair (.slice di) ak]) (az aS) (aZ (CG N)) bu N kS Ap [⟨.pair (.slice di) ak, r⟩] = F.WI N r := by
 show _ = F.ae5 N (F.Qd N) r
 rw [← ad5 N]
 kernel_rfl
def ab2 (N : Nat) : ax := aQ Ap.ps Ap.fz Ap.rs [aV, .pair (.slice di) ak] (F.WI N)
theorem WQ (N : Nat) : ay Tryz.prog 13 (ab2 N) := aU (N := N) bz mixed (ah (l := CG N) (aT rfl (jW N) (aT rfl (uZ N) trivial))) (aO _) aqR (by decide) (akF N)
noncomputable def SS := fiO Tryz.f56 an0
theorem aqI : bZ Tryz.prog 56 SS := okO Tryz.func56 (by kernel_rfl)
def T_ (N : Nat) : List (Nat × ax) := [(16, lZ N)]
def zu : ax := bJ [.bx (.pair (.slice di) ak), .d aV true] true [.d ak false]
def QQ (g_f_57 : Rdr → (Int) → Option ((Int) × Rdr)) : ax := aQ [.bx (.pair (.slice di) ak), .d ak false] true [.d ak false] [ak, .pair (.slice di) ak] g_f_57
def acV (g_f_57 : Rdr → (Int) → Option ((Int) × Rdr)) : List (Nat × ax) := [(16, QQ g_f_57)]
theorem aft (N : Nat) (g_f_57 : Rdr → (Int) → Option ((Int) × Rdr)) (r : Rdr) (b : af) : bg (a_ [ak, .pair (.slice di) ak]) (az aS) (aZ (acV g_f_57)) bu N SS zu [⟨.pair (.slice di) ak, r⟩, ⟨aV, b⟩] = F.Ze g_f_57 r b := by kernel_rfl
theorem ai8 (N : Nat) (r : Rdr) (b : af) : bg (a_ [ak, .pair (.slice di) ak]) (az aS) (aZ (T_ N)) bu N SS zu [⟨.pair (.slice di) ak, r⟩, ⟨aV, b⟩] = F.zZ N r b := aft N (F.gK N) r b
def abt (N : Nat) : ax := aQ zu.ps zu.fz zu.rs [ak, .pair (.slice di) ak] (F.zZ N)
theorem akL (N : Nat) : ay Tryz.prog 56 (abt N) := aU (N := N) bz mixed (ah (l := T_ N) (aT rfl (jW N) trivial)) (aO _) aqI (by decide) (ai8 N)
def auZ : Nat → Option Ann
 | 0 => some ⟨⟨[(0, kp), (4, kp), (7, kp), (8, kp), (9, kp)], [(500000, [kp, kp]), (4, k5)], []⟩, [(0, ⟨[(0, kp), (8, kp)], [(500000, [kp, kp])], []⟩)], n0⟩
 | _ => none
noncomputable def wL := fiO Tryz.f57 auZ
theorem asA : bZ Tryz.prog 57 wL := okO Tryz.func57 (by kernel_rfl)
def KF (N : Nat) : List (Nat × ax) := [(66, uK N), (16, lZ N)]
def FC : ax := bJ [.bx (.pair (.slice di) ak), .d aV true, .d ak false] true [.d ak false]
noncomputable def apN (N : Nat) : Env := dN (az aS) (aZ (KF N)) bu N wL [500000]
noncomputable def axv := (eP (az aS) wL.res (kT (a_ [ak, .pair (.slice di) ak]) FC [(500000, .bx (.pair (.slice di) ak))]))
noncomputable def afA (N : Nat) (n : Nat) : St → Option (Int × Rdr) := fun S' => nM [500000] (iU wL 0) (code (apN N) (jl wL.body 0 0) 0) n S' (fQ (apN N) wL.body 0 0 axv)
noncomputable def Xk (N : Nat) (r : Rdr) (b : af) (jA : Int) (n : Nat) : Int → Int → Option (Int × Rdr) := fun gD i9 => afA N n ⟨[(0, vb 500000), (4, vb 4), (7, vv ak jA), (8, vv ak gD), (9, vv ak i9)], [(500000, .box [.v di.slice r.1, .v ak r.2]), (4, bxB b)]⟩
theorem akt (N : Nat) : Xk N = ad9 N := fx4 fun r b jA => bK (by kernel_rfl) fun n => by
 show _ = Hy N r b jA (Xk N r b jA n)
 kernel_rfl
theorem alX (N : Nat) (r : Rdr) (b : af) (number : Int) : bg (a_ [ak, .pair (.slice di) ak]) (az aS) (aZ (KF N)) bu N wL FC [⟨.pair (.slice di) ak, r⟩, ⟨aV, b⟩, ⟨ak, number⟩] = F.aiD N r b number := by
 show _ = F.alF N (F.ad9 N) r b number
 rw [← akt N]
 kernel_rfl
def ahK (N : Nat) : ax := aQ FC.ps FC.fz FC.rs [ak, .pair (.slice di) ak] (F.aiD N)
theorem aqi (N : Nat) : ay Tryz.prog 57 (ahK N) := aU (N := N) bz mixed (ah (l := KF N) (aT rfl (uh N) (aT rfl (jW N) trivial))) (aO _) asA (by decide) (alX N)
def ap4 : Nat → Option Ann
 | 0 => some ⟨⟨[(0, kp), (1, kp), (2, kp), (7, .own 700007 9 Ty.str), (8, kp)], [(500000, [kp, kp])], []⟩, [(0, ⟨[(7, .own 700007 9 Ty.str)], [(500000, [kp, kp])], []⟩)], n0⟩
 | _ => none
noncomputable def qW := fiO Tryz.f95 ap4
theorem an4 : bZ Tryz.prog 95 qW := okO Tryz.func95 (by kernel_rfl)
def DL (N : Nat) : List (Nat × ax) := [(16, lZ N)]
def yg : ax := bJ [.bx (.pair (.slice di) ak), .d aN false, .d ak false] true [.own aN false [(9, none)]]
noncomputable def agN (N : Nat) : Env := dN (az aS) (aZ (DL N)) bu N qW [500000]
noncomputable def atI := (eP (az aS) qW.res (kT (a_ [aN, .pair (.slice di) ak]) yg [(500000, .bx (.pair (.slice di) ak))]))
noncomputable def aa9 (N : Nat) (n : Nat) : St → Option (List Txt × Rdr) := fun S' => nM [500000] (iU qW 0) (code (agN N) (jl qW.body 0 0) 0) n S' (fQ (agN N) qW.body 0 0 atI)
noncomputable def Rh (N : Nat) (list : List Txt) (most : Int) (n : Nat) : Int → (List Int) → Int → (List Txt) → Option (List Txt × Rdr) := fun i8 zA aB hD => aa9 N n ⟨[(0, vb 500000), (1, vv aN list), (2, vv ak most), (7, va 700007), (8, vv ak i8)], [(500000, .box [.v di.slice zA, .v ak aB]), (700007, .arr 9 Ty.str hD)]⟩
theorem acO (N : Nat) : Rh N = ZK N := fx3 fun list most => bK (by kernel_rfl) fun n => by
 show _ = y9 N list most (Rh N list most n)
 kernel_rfl
theorem ajL (N : Nat) (r : Rdr) (list : List Txt) (most : Int) : bg (a_ [aN, .pair (.slice di) ak]) (az aS) (aZ (DL N)) bu N qW yg [⟨.pair (.slice di) ak, r⟩, ⟨aN, list⟩, ⟨ak, most⟩] = F.aa0 N r list most := by
 show _ = F.alA N (F.ZK N) r list most
 rw [← acO N]
 kernel_rfl
def acu (N : Nat) : ax := aQ yg.ps yg.fz yg.rs [aN, .pair (.slice di) ak] (F.aa0 N)
theorem akJ (N : Nat) : ay Tryz.prog 95 (acu N) := aU (N := N) bz mixed (ah (l := DL N) (aT rfl (jW N) trivial)) (aO _) an4 (by decide) (ajL N)
def ak5 : Nat → Option Ann
 | 0 => some ⟨⟨[(0, kp), (4, kp), (6, kp), (7, kp), (8, kp)], [(500000, [kp, kp]), (4, k5), (6, [kp, kp, kp, kp, kp, kp]), (7, [kp, kp, .frz Ty.str, kp, kp, kp])], []⟩, [(0, ⟨[(0, kp), (4, kp), (6, kp), (7, kp)], [(500000, [kp, kp]), (4, k5), (6, [kp, kp, kp, kp, kp, kp]), (7, [kp, kp, .frz Ty.str, kp, kp, kp])], []⟩)], n0⟩
 | 2 => some ⟨⟨[(0, kp), (4, kp), (6, kp), (7, kp), (8, kp), (9, kp)], [(500000, [kp, kp]), (4, k5), (6, [kp, kp, kp, kp, kp, kp]), (7, [kp, kp, .frz Ty.str, kp, kp, kp])], []⟩, [(2, ⟨[(0, kp), (4, kp), (6, kp), (7, kp), (8, kp)], [(500000, [kp, kp]), (4, k5), (6, [kp, kp, kp, kp, kp, kp]), (7, [kp, kp, .frz Ty.str, kp, kp, kp])], []⟩)], n0⟩
 | 4 => some ⟨⟨[(0, kp), (4, kp), (6, kp), (7, kp), (10, kp)], [(500000, [kp, kp]), (4, k5), (6, [kp, kp, kp, kp, kp, kp]), (7, [kp, kp, .frz Ty.str, .own 1000703 101 dP, kp, kp])], []⟩, [(4, ⟨[(0, kp), (4, kp), (6, kp), (7, kp)], [(500000, [kp, kp]), (4, k5), (6, [kp, kp, kp, kp, kp, kp]), (7, [kp, kp, .frz Ty.str, .own 1000703 101 dP, kp, kp])], []⟩)], n0⟩
 | 6 => some ⟨⟨[(0, kp), (4, kp), (6, kp), (7, kp), (10, kp), (11, kp), (12, kp)], [(500000, [kp, kp]), (4, k5), (6, [kp, kp, kp, kp, kp, kp]), (7, [kp, kp, .frz Ty.str, .own 1000703 101 dP, kp, kp]), (11, [kp, kp, kp])], []⟩, [(6, ⟨[(0, kp), (4, kp), (6, kp), (7, kp), (10, kp), (11, kp)], [(500000, [kp, kp]), (4, k5), (6, [kp, kp, kp, kp, kp, kp]), (7, [kp, kp, .frz Ty.str, .own 1000703 101 dP, kp, kp]), (11, [kp, kp, kp])], []⟩)], n0⟩
 | 8 => some ⟨⟨[(6, kp), (7, kp), (13, .own 700013 9 Ty.str), (14, kp)], [(500000, [kp, kp]), (6, [kp, kp, kp, kp, kp, kp]), (7, [kp, kp, .frz Ty.str, .own 1000703 101 dP, .own 1000704 9 Ty.str, .own 1000705 9 Ty.str])], []⟩, [(8, ⟨[(6, kp), (7, kp)], [(500000, [kp, kp]), (6, [kp, kp, kp, kp, kp, kp]), (7, [kp, kp, .frz Ty.str, .own 1000703 101 dP, .own 1000704 9 Ty.str, .own 1000705 9 Ty.str])], []⟩)], n0⟩
 | _ => none
noncomputable def fO := fiO Tryz.f58 ak5
theorem aq1 : bZ Tryz.prog 58 fO := okO Tryz.func58 (by kernel_rfl)
def Dk (N : Nat) : List (Nat × ax) := [(16, lZ N), (20, Bf N), (94, Yd N), (95, acu N), (72, oM N)]
def zn : ax := bJ [.bx (.pair (.slice di) ak), .d aV true, .d ak false] true [.d bQ true]
def L_ (b : af) (number : Int) (aA : Int) (bA : Int) (cA : Int) (uB : Int) (lA : List Int) (mA : Int) (eA : List Txt) (dA : List Use) : St := ⟨[(0, vb 500000), (4, vb 4), (6, vb 6), (7, vb 7), (10, vv ak uB)], [(500000, .box [.v di.slice lA, .v ak mA]), (4, bxB b), (6, .box [.v ak aA, .v ak bA, .emp, .emp, .emp, .emp]), (7, .box [.v ak number, .v ak cA, .v aN eA, .arr 1000703, .emp, .emp]), (1000703, .arr 101 dP dA)]⟩
def MP (b : af) (number : Int) (fA : Int) (gA : Int) (hA : Int) (i8 : Int) (zA : List Int) (aB : Int) (kB : List Txt) : St := ⟨[(0, vb 500000), (4, vb 4), (6, vb 6), (7, vb 7), (8, vv ak i8)], [(500000, .box [.v di.slice zA, .v ak aB]), (4, bxB b), (6, .box [.v ak fA, .v ak gA, .emp, .emp, .emp, .emp]), (7, .box [.v ak number, .v ak hA, .v aN kB, .emp, .emp, .emp])]⟩
noncomputable def kW (N : Nat) : Env := dN (az aS) (aZ (Dk N)) bu N fO [500000]
noncomputable def ES := (eP (az aS) fO.res (kT (a_ [bQ, .pair (.slice di) ak]) zn [(500000, .bx (.pair (.slice di) ak))]))
noncomputable def acC (N : Nat) (nxS0 : St → Option (aK × Rdr)) (n : Nat) : St → Option (aK × Rdr) := fun S' => nM [500000] (iU fO 2) (code (kW N) (jl (jl fO.body 0 0) 0 2) 2) n S' (fQ (kW N) (jl fO.body 0 0) 0 2 (NU [500000] (iU fO 0) nxS0 (fQ (kW N) fO.body 0 0 ES)))
noncomputable def Du (N : Nat) (nxS0 : St → Option (aK × Rdr)) (b : af) (number : Int) (fA : Int) (gA : Int) (hA : Int) (i8 : Int) (iD : Int × Rdr) (n : Nat) : Int → (List Txt) → Option (aK × Rdr) := fun k9 rC => acC N nxS0 n ⟨[(0, vb 500000), (4, vb 4), (6, vb 6), (7, vb 7), (8, vv ak i8), (9, vv ak k9)], [(500000, .box [.v di.slice iD.2.1, .v ak iD.2.2]), (4, bxB b), (6, .box [.v ak fA, .v ak gA, .emp, .emp, .emp, .emp]), (7, .box [.v ak number, .v ak hA, .v aN rC, .emp, .emp, .emp])]⟩
theorem aej (N : Nat) (nxS0 : St → Option (aK × Rdr)) (b : af) (number : Int) (fA : Int) (gA : Int) (hA : Int) : Du N nxS0 b number fA gA hA = sN N (fun i8 zA aB kB => nxS0 (MP b number fA gA hA i8 zA aB kB)) b number fA gA hA := fx3 fun i8 iD => bK (by kernel_rfl) fun n => by
 show _ = qQ N (fun i8 zA aB kB => nxS0 (MP b number fA gA hA i8 zA aB kB)) b number fA gA hA i8 iD (Du N nxS0 b number fA gA hA i8 iD n)
 kernel_rfl
noncomputable def aaY (N : Nat) (nxS4 : St → Option (aK × Rdr)) (n : Nat) : St → Option (aK × Rdr) := fun S' => nM [500000] (iU fO 6) (code (kW N) (jl (jl fO.body 0 4) 4 6) 6) n S' (fQ (kW N) (jl fO.body 0 4) 4 6 (NU [500000] (iU fO 4) nxS4 (fQ (kW N) fO.body 0 4 ES)))
noncomputable def CE (N : Nat) (nxS4 : St → Option (aK × Rdr)) (b : af) (number : Int) (aA : Int) (bA : Int) (cA : Int) (uB : Int) (dA : List Use) (pB : Txt) (qB : Int) (rB : Int) (n : Nat) : Int → (List Int) → Int → (List Txt) → Option (aK × Rdr) := fun jE sC tC uC => aaY N nxS4 n ⟨[(0, vb 500000), (4, vb 4), (6, vb 6), (7, vb 7), (10, vv ak uB), (11, vb 11), (12, vv ak jE)], [(500000, .box [.v di.slice sC, .v ak tC]), (4, bxB b), (6, .box [.v ak aA, .v ak bA, .emp, .emp, .emp, .emp]), (7, .box [.v ak number, .v ak cA, .v aN uC, .arr 1000703, .emp, .emp]), (11, .box [.v Ty.str pB, .v ak qB, .v ak rB]), (1000703, .arr 101 dP dA)]⟩
theorem ael (N : Nat) (nxS4 : St → Option (aK × Rdr)) (b : af) (number : Int) (aA : Int) (bA : Int) (cA : Int) : CE N nxS4 b number aA bA cA = pM N (fun uB lA mA eA dA => nxS4 (L_ b number aA bA cA uB lA mA eA dA)) b number aA bA cA := fx6 fun uB dA pB qB rB => bK (by kernel_rfl) fun n => by
 show _ = qV N (fun uB lA mA eA dA => nxS4 (L_ b number aA bA cA uB lA mA eA dA)) b number aA bA cA uB dA pB qB rB (CE N nxS4 b number aA bA cA uB dA pB qB rB n)
 kernel_rfl
noncomputable def Z4 (N : Nat) (n : Nat) : St → Option (aK × Rdr) := fun S' => nM [500000] (iU fO 8) (code (kW N) (jl fO.body 0 8) 8) n S' (fQ (kW N) fO.body 0 8 ES)
noncomputable def CS (N : Nat) (number : Int) (aA : Int) (bA : Int) (cA : Int) (eA : List Txt) (dA : List Use) (dC : List Txt × Rdr) (tB : List Txt × Rdr) (n : Nat) : Int → (List Txt) → Option (aK × Rdr) := fun kE jD => Z4 N n ⟨[(6, vb 6), (7, vb 7), (13, va 700013), (14, vv ak kE)], [(500000, .box [.v di.slice tB.2.1, .v ak tB.2.2]), (6, .box [.v ak aA, .v ak bA, .emp, .emp, .emp, .emp]), (7, .box [.v ak number, .v ak cA, .v aN eA, .arr 1000703, .arr 1000704, .arr 1000705]), (700013, .arr 9 Ty.str tB.1), (1000703, .arr 101 dP dA), (1000704, .arr 9 Ty.str jD), (1000705, .arr 9 Ty.str dC.1)]⟩
theorem adN (N : Nat) : CS N = sJ N := fx9 fun number aA bA cA eA dA dC tB => bK (by kernel_rfl) fun n => by
 show _ = qj N number aA bA cA eA dA dC tB (CS N number aA bA cA eA dA dC tB n)
 kernel_rfl
noncomputable def yK (N : Nat) (n : Nat) : St → Option (aK × Rdr) := fun S' => nM [500000] (iU fO 4) (code (kW N) (jl fO.body 0 4) 4) n S' (fQ (kW N) fO.body 0 4 ES)
noncomputable def qc (N : Nat) (b : af) (number : Int) (aA : Int) (bA : Int) (cA : Int) (n : Nat) : Int → (List Int) → Int → (List Txt) → (List Use) → Option (aK × Rdr) := fun uB lA mA eA dA => yK N n (L_ b number aA bA cA uB lA mA eA dA)
theorem Tu (N : Nat) : qc N = nY N := fx6 fun b number aA bA cA => bK (by kernel_rfl) fun n => by
 show _ = qi N (pM N (qc N b number aA bA cA n) b number aA bA cA) (sJ N) b number aA bA cA (qc N b number aA bA cA n)
 rw [show pM N (qc N b number aA bA cA n) b number aA bA cA = CE N (yK N n) b number aA bA cA from (ael N (yK N n) b number aA bA cA).symm]
 rw [show sJ N = CS N from (adN N).symm]
 kernel_rfl
noncomputable def Ar (N : Nat) (n : Nat) : St → Option (aK × Rdr) := fun S' => nM [500000] (iU fO 0) (code (kW N) (jl fO.body 0 0) 0) n S' (fQ (kW N) fO.body 0 0 ES)
noncomputable def wO (N : Nat) (b : af) (number : Int) (fA : Int) (gA : Int) (hA : Int) (n : Nat) : Int → (List Int) → Int → (List Txt) → Option (aK × Rdr) := fun i8 zA aB kB => Ar N n (MP b number fA gA hA i8 zA aB kB)
theorem aeV (N : Nat) : wO N = OU N := fx6 fun b number fA gA hA => bK (by kernel_rfl) fun n => by
 show _ = qJ N (sN N (wO N b number fA gA hA n) b number fA gA hA) (nY N) b number fA gA hA (wO N b number fA gA hA n)
 rw [show sN N (wO N b number fA gA hA n) b number fA gA hA = Du N (Ar N n) b number fA gA hA from (aej N (Ar N n) b number fA gA hA).symm]
 rw [show nY N = qc N from (Tu N).symm]
 kernel_rfl
theorem aj1 (N : Nat) (r : Rdr) (b : af) (number : Int) : bg (a_ [bQ, .pair (.slice di) ak]) (az aS) (aZ (Dk N)) bu N fO zn [⟨.pair (.slice di) ak, r⟩, ⟨aV, b⟩, ⟨ak, number⟩] = F.Uj N r b number := by
 show _ = F.YP N (F.OU N) (F.nY N) r b number
 rw [← aeV N]
 rw [← Tu N]
 kernel_rfl
def ZX (N : Nat) : ax := aQ zn.ps zn.fz zn.rs [bQ, .pair (.slice di) ak] (F.Uj N)
theorem aiu (N : Nat) : ay Tryz.prog 58 (ZX N) := aU (N := N) bz mixed (ah (l := Dk N) (aT rfl (jW N) (aT rfl (uZ N) (aT rfl (abh N) (aT rfl (akJ N) (aT rfl (mX N) trivial)))))) (aO _) aq1 (by decide) (aj1 N)
def arB : Nat → Option Ann
 | 1 => some ⟨⟨[(4, kp), (5, kp), (6, kp), (7, kp)], [(500000, [kp, kp]), (4, [kp, kp, kp, kp, kp, kp]), (5, [kp, kp, .own 1000502 9 Ty.str, .own 1000503 101 dP, .own 1000504 9 Ty.str, .own 1000505 9 Ty.str])], []⟩, [(1, ⟨[(4, kp), (5, kp)], [(500000, [kp, kp]), (4, [kp, kp, kp, kp, kp, kp]), (5, [kp, kp, .own 1000502 9 Ty.str, .own 1000503 101 dP, .own 1000504 9 Ty.str, .own 1000505 9 Ty.str])], []⟩)], n0⟩
 | _ => none
noncomputable def wu := fiO Tryz.f59 arB
theorem ary : bZ Tryz.prog 59 wu := okO Tryz.func59 (by kernel_rfl)
def MS (N : Nat) : List (Nat × ax) := [(60, Fq N), (16, lZ N), (20, Bf N), (14, mf N)]
def Ja : ax := bJ [.bx (.pair (.slice di) ak), .d bQ true] true [.d bQ true]
noncomputable def aqj (N : Nat) : Env := dN (az aS) (aZ (MS N)) bu N wu [500000]
noncomputable def aw7 := (eP (az aS) wu.res (kT (a_ [bQ, .pair (.slice di) ak]) Ja [(500000, .bx (.pair (.slice di) ak))]))
noncomputable def aeD (N : Nat) (n : Nat) : St → Option (aK × Rdr) := fun S' => nM [500000] (iU wu 1) (code (aqj N) (jl wu.body 0 1) 1) n S' (fQ (aqj N) wu.body 0 1 aw7)
noncomputable def VS (N : Nat) (jA : aK) (xB : Int × Rdr) (n6 : Int) (eC : Int) (fC : Int) (n : Nat) : Int → (List Txt) → Option (aK × Rdr) := fun i7 kD => aeD N n ⟨[(4, vb 4), (5, vb 5), (6, vv ak n6), (7, vv ak i7)], [(500000, .box [.v di.slice xB.2.1, .v ak xB.2.2]), (4, .box [.v ak eC, .v ak fC, .emp, .emp, .emp, .emp]), (5, .box [.v ak jA.1, .v ak jA.2.1, .arr 1000502, .arr 1000503, .arr 1000504, .arr 1000505]), (1000502, .arr 9 Ty.str jA.2.2.1), (1000503, .arr 101 dP jA.2.2.2.1), (1000504, .arr 9 Ty.str jA.2.2.2.2.1), (1000505, .arr 9 Ty.str kD)]⟩
theorem ah0 (N : Nat) : VS N = Yz N := fx6 fun jA xB n6 eC fC => bK (by kernel_rfl) fun n => by
 show _ = wQ N jA xB n6 eC fC (VS N jA xB n6 eC fC n)
 kernel_rfl
theorem ali (N : Nat) (r : Rdr) (w : aK) : bg (a_ [bQ, .pair (.slice di) ak]) (az aS) (aZ (MS N)) bu N wu Ja [⟨.pair (.slice di) ak, r⟩, ⟨bQ, w⟩] = F.aap N r w := by
 show _ = F.ahJ N (F.Yz N) r w
 rw [← ah0 N]
 kernel_rfl
def ahp (N : Nat) : ax := aQ Ja.ps Ja.fz Ja.rs [bQ, .pair (.slice di) ak] (F.aap N)
theorem alG (N : Nat) : ay Tryz.prog 59 (ahp N) := aU (N := N) bz mixed (ah (l := MS N) (aT rfl (IV N) (aT rfl (jW N) (aT rfl (uZ N) (aT rfl (kJ N) trivial))))) (aO _) ary (by decide) (ali N)
noncomputable def abV := fiO Tryz.f17 an0
theorem alu : bZ Tryz.prog 17 abV := okO Tryz.func17 (by kernel_rfl)
def TS (N : Nat) : List (Nat × ax) := [(16, lZ N), (56, abt N), (57, ahK N), (58, ZX N), (59, ahp N), (60, Fq N)]
def EY : ax := bJ [.bx (.pair (.slice di) ak), .d aV true] true [.d tDo true]
theorem aiL (N : Nat) (r : Rdr) (b : af) : bg (a_ [tDo, .pair (.slice di) ak]) (az aS) (aZ (TS N)) bu N abV EY [⟨.pair (.slice di) ak, r⟩, ⟨aV, b⟩] = F.Ti N r b := by kernel_rfl
def abN (N : Nat) : ax := aQ EY.ps EY.fz EY.rs [tDo, .pair (.slice di) ak] (F.Ti N)
theorem XK (N : Nat) : ay Tryz.prog 17 (abN N) := aU (N := N) bz mixed (ah (l := TS N) (aT rfl (jW N) (aT rfl (akL N) (aT rfl (aqi N) (aT rfl (aiu N) (aT rfl (alG N) (aT rfl (IV N) trivial))))))) (aO _) alu (by decide) (aiL N)
noncomputable def abR := fiO Tryz.f18 an0
theorem ak8 : bZ Tryz.prog 18 abR := okO Tryz.func18 (by kernel_rfl)
def SG (N : Nat) : List (Nat × ax) := [(31, YW N), (33, YA N), (29, Yy N)]
def Gy : ax := bJ [.d aV true, .d tDo true] true [.d aV true]
theorem akN (N : Nat) (b : af) (d : Do) : bg (a_ [aV]) (az aS) (aZ (SG N)) bu N abR Gy [⟨aV, b⟩, ⟨tDo, d⟩] = F.Wp N b d := by kernel_rfl
def abA (N : Nat) : ax := aQ Gy.ps Gy.fz Gy.rs [aV] (F.Wp N)
theorem VZ (N : Nat) : ay Tryz.prog 18 (abA N) := aU (N := N) bz mixed (ah (l := SG N) (aT rfl (ach N) (aT rfl (acv N) (aT rfl (acn N) trivial)))) (aO _) ak8 (by decide) (akN N)
def auc : Nat → Option Ann
 | 0 => some ⟨⟨[(0, kp), (3, .own 700003 9 Ty.str), (4, kp)], [], []⟩, [(0, ⟨[(3, .own 700003 9 Ty.str)], [], []⟩)], n0⟩
 | _ => none
noncomputable def Ji := fiO Tryz.f61 auc
theorem aue : bZ Tryz.prog 61 Ji := okO Tryz.func61 (by kernel_rfl)
def MN (N : Nat) : List (Nat × ax) := [(14, mf N), (15, A7 N)]
def Gf : ax := bJ [.d (.slice dP) false] false [.d (.str) false]
noncomputable def aw4 (N : Nat) : Env := dN (az aS) (aZ (MN N)) bu N Ji []
noncomputable def av5 := (eP (az aS) Ji.res (kT (a_ [.str]) Gf []))
noncomputable def acX (N : Nat) (n : Nat) : St → Option Txt := itO (aw4 N) Ji 0 0 av5 n
noncomputable def Wq (N : Nat) (uses : List Use) (n : Nat) : Int → (List Txt) → Option Txt := fun i4 lD => acX N n ⟨[(0, vv dP.slice uses), (3, va 700003), (4, vv ak i4)], [(700003, .arr 9 Ty.str lD)]⟩
theorem ai4 (N : Nat) : Wq N = ads N := fx2 fun uses => bK (by kernel_rfl) fun n => by
 show _ = Jb N uses (Wq N uses n)
 kernel_rfl
theorem alB (N : Nat) (uses : List Use) : bg (a_ [.str]) (az aS) (aZ (MN N)) bu N Ji Gf [⟨.slice dP, uses⟩] = F.amQ N uses := by
 show _ = F.alk N (F.ads N) uses
 rw [← ai4 N]
 kernel_rfl
def af_ (N : Nat) : ax := aQ Gf.ps Gf.fz Gf.rs [.str] (F.amQ N)
theorem apY (N : Nat) : ay Tryz.prog 61 (af_ N) := aU (N := N) bz mixed (ah (l := MN N) (aT rfl (kJ N) (aT rfl (tX N) trivial))) (aO _) aue (by decide) (alB N)
noncomputable def af6 := fiO Tryz.f19 an0
theorem auu : bZ Tryz.prog 19 af6 := okO Tryz.func19 (by kernel_rfl)
def Xj (N : Nat) : List (Nat × ax) := [(14, mf N), (61, af_ N), (15, A7 N)]
def OY : ax := bJ [.d bQ true] false [.d (.str) false]
theorem alb (N : Nat) (w : aK) : bg (a_ [.str]) (az aS) (aZ (Xj N)) bu N af6 OY [⟨bQ, w⟩] = F.ajv N w := by kernel_rfl
def af1 (N : Nat) : ax := aQ OY.ps OY.fz OY.rs [.str] (F.ajv N)
theorem aad (N : Nat) : ay Tryz.prog 19 (af1 N) := aU (N := N) bz mixed (ah (l := Xj N) (aT rfl (kJ N) (aT rfl (apY N) (aT rfl (tX N) trivial)))) (aO _) auu (by decide) (alb N)
noncomputable def Ye := fiO Tryz.f21 an0
theorem auA : bZ Tryz.prog 21 Ye := okO Tryz.func21 (by kernel_rfl)
def Xf (N : Nat) : List (Nat × ax) := [(16, lZ N), (20, Bf N)]
def Hq : ax := bJ [.bx (.pair (.slice di) ak), .d aV true] true [.d (.str) false]
def UL (g_f_57 : Rdr → (Int) → Option ((Int) × Rdr)) : ax := aQ [.bx (.pair (.slice di) ak), .d ak false] true [.d ak false] [ak, .pair (.slice di) ak] g_f_57
def UK (g_f_82 : Rdr → (List Txt) → Option (Txt × Rdr)) : ax := aQ [.bx (.pair (.slice di) ak), .d aN false] true [.d (.str) false] [.str, .pair (.slice di) ak] g_f_82
def aje (g_f_57 : Rdr → (Int) → Option ((Int) × Rdr)) (g_f_82 : Rdr → (List Txt) → Option (Txt × Rdr)) : List (Nat × ax) := [(16, UL g_f_57), (20, UK g_f_82)]
theorem aiG (N : Nat) (g_f_57 : Rdr → (Int) → Option ((Int) × Rdr)) (g_f_82 : Rdr → (List Txt) → Option (Txt × Rdr)) (r : Rdr) (b : af) : bg (a_ [.str, .pair (.slice di) ak]) (az aS) (aZ (aje g_f_57 g_f_82)) bu N Ye Hq [⟨.pair (.slice di) ak, r⟩, ⟨aV, b⟩] = F.anJ g_f_57 g_f_82 r b := by kernel_rfl
theorem apW (N : Nat) (r : Rdr) (b : af) : bg (a_ [.str, .pair (.slice di) ak]) (az aS) (aZ (Xf N)) bu N Ye Hq [⟨.pair (.slice di) ak, r⟩, ⟨aV, b⟩] = F.aiK N r b := aiG N (F.gK N) (F.BG N) r b
def ag9 (N : Nat) : ax := aQ Hq.ps Hq.fz Hq.rs [.str, .pair (.slice di) ak] (F.aiK N)
theorem aav (N : Nat) : ay Tryz.prog 21 (ag9 N) := aU (N := N) bz mixed (ah (l := Xf N) (aT rfl (jW N) (aT rfl (uZ N) trivial))) (aO _) auA (by decide) (apW N)
def auH : Nat → Option Ann
 | 0 => some ⟨⟨[(0, kp), (1, kp), (5, kp)], [], []⟩, [(0, ⟨[(5, kp)], [], []⟩)], n0⟩
 | _ => none
noncomputable def Ez := fiO Tryz.f22 auH
theorem atK : bZ Tryz.prog 22 Ez := okO Tryz.func22 (by kernel_rfl)
def Nr (N : Nat) : List (Nat × ax) := []
def Jw : ax := bJ [.d (.str) false, .d ak false] false [.d (.str) false]
noncomputable def axl (N : Nat) : Env := dN (az aS) (aZ (Nr N)) bu N Ez []
noncomputable def axM := (eP (az aS) Ez.res (kT (a_ [.str]) Jw []))
noncomputable def afu (N : Nat) (n : Nat) : St → Option Txt := itO (axl N) Ez 0 0 axM n
noncomputable def VO (N : Nat) (n : Nat) : Txt → Int → Txt → Option Txt := fun s0 n1 wB => afu N n ⟨[(0, vv Ty.str s0), (1, vv ak n1), (5, vv Ty.str wB)], []⟩
theorem ajC (N : Nat) : VO N = LW N := funext (bK (by kernel_rfl) fun n => by
 show _ = AB N (VO N n)
 kernel_rfl)
theorem anu (N : Nat) (s : Txt) (n0 : Int) : bg (a_ [.str]) (az aS) (aZ (Nr N)) bu N Ez Jw [⟨.str, s⟩, ⟨ak, n0⟩] = F.alQ N s n0 := by
 show _ = F.avN N (F.LW N) s n0
 rw [← ajC N]
 kernel_rfl
def ahH (N : Nat) : ax := aQ Jw.ps Jw.fz Jw.rs [.str] (F.alQ N)
theorem ab4 (N : Nat) : ay Tryz.prog 22 (ahH N) := aU (N := N) bz mixed (ah (l := Nr N) trivial) (aO _) atK (by decide) (anu N)
def auD : Nat → Option Ann
 | 0 => some ⟨⟨[(3, kp), (4, kp), (5, kp), (6, kp)], [(10, [kp, kp]), (4, [kp, .own 1000401 46 b_, .own 1000402 9 Ty.str, .dow 1000403 91 [9, 101, 9, 9] dJ, kp])], []⟩, [(0, ⟨[(3, kp), (4, kp), (5, kp)], [(10, [kp, kp]), (4, [kp, .own 1000401 46 b_, .own 1000402 9 Ty.str, .dow 1000403 91 [9, 101, 9, 9] dJ, kp])], []⟩)], n0⟩
 | 2 => some ⟨⟨[(3, kp), (4, kp), (5, kp), (7, kp)], [(10, [kp, kp]), (4, [kp, .own 1000401 46 b_, .own 1000402 9 Ty.str, .dow 1000403 91 [9, 101, 9, 9] dJ, kp])], []⟩, [(2, ⟨[(3, kp), (4, kp), (5, kp)], [(10, [kp, kp]), (4, [kp, .own 1000401 46 b_, .own 1000402 9 Ty.str, .dow 1000403 91 [9, 101, 9, 9] dJ, kp])], []⟩)], n0⟩
 | 4 => some ⟨⟨[(3, kp), (4, kp), (5, kp), (8, kp)], [(10, [kp, kp]), (4, [kp, .frz b_, .frz Ty.str, .frz dJ, kp])], []⟩, [(4, ⟨[(3, kp), (5, kp)], [(10, [kp, kp])], []⟩)], n0⟩
 | _ => none
noncomputable def vO := fiO Tryz.f7 auD
theorem ath : bZ Tryz.prog 7 vO := okO Tryz.func7 (by kernel_rfl)
def pO (N : Nat) : List (Nat × ax) := [(13, ab2 N), (14, mf N), (15, A7 N), (16, lZ N), (17, abN N), (18, abA N), (19, af1 N), (20, Bf N), (21, ag9 N), (22, ahH N)]
def Gs : ax := bJ [.d (.slice di) false] false [.d (.str) false]
noncomputable def ac8 (N : Nat) : Env := dN (az aS) (aZ (pO N)) (aks aoS [(12, lY)] (az aS) (aZ (pO N)) N) N vO []
noncomputable def adH := (eP (az aS) vO.res (kT (a_ [.str]) Gs []))
noncomputable def aek (N : Nat) (n : Nat) : St → Option Txt := itO (ac8 N) vO 0 4 adH n
noncomputable def KZ (N : Nat) (n : Nat) : Txt → Int → (List Int) → Int → (List Foe) → (List bi) → (List Txt) → (List dm) → Int → Option Txt := fun vC n8 gC hC wC zD aE bE xC => aek N n ⟨[(3, vb 10), (4, vb 4), (5, vv Ty.str vC), (8, vv ak n8)], [(10, .box [.v di.slice gC, .v ak hC]), (4, .box [.v f_.slice wC, .v b_.slice zD, .v aN aE, .v dJ.slice bE, .v ak xC])]⟩
theorem ajl (N : Nat) : KZ N = Mc N := funext (bK (by kernel_rfl) fun n => by
 show _ = Ii N (KZ N n)
 kernel_rfl)
noncomputable def aet (N : Nat) (n : Nat) : St → Option Txt := itO (ac8 N) vO 0 2 adH n
noncomputable def J5 (N : Nat) (tA : List Int) (uA : Int) (hB : List Foe) (iB : Int) (vA : List Txt) (wA : List dm) (n : Nat) : Txt → Int → (List bi) → Option Txt := fun yC i7 iC => aet N n ⟨[(3, vb 10), (4, vb 4), (5, vv Ty.str yC), (7, vv ak i7)], [(10, .box [.v di.slice tA, .v ak uA]), (4, .box [.v f_.slice hB, .arr 1000401, .arr 1000402, .arr 1000403, .v ak iB]), (1000401, .arr 46 b_ iC), (1000402, .arr 9 Ty.str vA), (1000403, .arr 91 dJ wA (Dp.yes [9, 101, 9, 9]))]⟩
theorem aj2 (N : Nat) : J5 N = MM N := fx7 fun tA uA hB iB vA wA => bK (by kernel_rfl) fun n => by
 show _ = Ew N (Mc N) tA uA hB iB vA wA (J5 N tA uA hB iB vA wA n)
 rw [show Mc N = KZ N from (ajl N).symm]
 kernel_rfl
noncomputable def aew (N : Nat) (n : Nat) : St → Option Txt := itO (ac8 N) vO 0 0 adH n
noncomputable def U_ (N : Nat) (tA : List Int) (uA : Int) (hB : List Foe) (iB : Int) (sB : List bi) (vA : List Txt) (wA : List dm) (n : Nat) : Txt → Int → Option Txt := fun wB i6 => aew N n ⟨[(3, vb 10), (4, vb 4), (5, vv Ty.str wB), (6, vv ak i6)], [(10, .box [.v di.slice tA, .v ak uA]), (4, .box [.v f_.slice hB, .arr 1000401, .arr 1000402, .arr 1000403, .v ak iB]), (1000401, .arr 46 b_ sB), (1000402, .arr 9 Ty.str vA), (1000403, .arr 91 dJ wA (Dp.yes [9, 101, 9, 9]))]⟩
theorem ail (N : Nat) : U_ N = ZB N := fx8 fun tA uA hB iB sB vA wA => bK (by kernel_rfl) fun n => by
 show _ = Jt N (MM N) tA uA hB iB sB vA wA (U_ N tA uA hB iB sB vA wA n)
 rw [show MM N = J5 N from (aj2 N).symm]
 kernel_rfl
theorem anI (N : Nat) (code : List (Int)) : bg (a_ [.str]) (az aS) (aZ (pO N)) (aks aoS [(12, lY)] (az aS) (aZ (pO N)) N) N vO Gs [⟨.slice di, code⟩] = F.aoZ N code := by
 show _ = F.apS N (F.ZB N) code
 rw [← ail N]
 kernel_rfl
def agT (N : Nat) : ax := aQ Gs.ps Gs.fz Gs.rs [.str] (F.aoZ N)
theorem apX (N : Nat) : ay Tryz.prog 7 (agT N) := aU (N := N) bz mixed (ah (l := pO N) (aT rfl (WQ N) (aT rfl (kJ N) (aT rfl (tX N) (aT rfl (jW N) (aT rfl (XK N) (aT rfl (VZ N) (aT rfl (aad N) (aT rfl (uZ N) (aT rfl (aav N) (aT rfl (ab4 N) trivial))))))))))) (arU (L := aoS) (Fs := [(12, lY)]) ahv (And.intro Sz trivial) bz (ah (l := pO N) (aT rfl (WQ N) (aT rfl (kJ N) (aT rfl (tX N) (aT rfl (jW N) (aT rfl (XK N) (aT rfl (VZ N) (aT rfl (aad N) (aT rfl (uZ N) (aT rfl (aav N) (aT rfl (ab4 N) trivial))))))))))) mixed) ath (by decide) (anI N)
def art : Nat → Option Ann
 | 0 => some ⟨⟨[(3, kp), (4, kp), (5, kp), (6, kp)], [], []⟩, [(0, ⟨[(3, kp), (5, kp)], [], []⟩)], n0⟩
 | _ => none
noncomputable def Gp := fiO Tryz.f4 art
theorem avb : bZ Tryz.prog 4 Gp := okO Tryz.func4 (by kernel_rfl)
def MI (N : Nat) : List (Nat × ax) := [(7, agT N), (6, ahE N), (5, agM N)]
def Hm : ax := bJ [.d (.slice di) false] false [.d (.bool) false]
noncomputable def axe (N : Nat) : Env := dN (az aS) (aZ (MI N)) bu N Gp []
noncomputable def av2 := (eP (az aS) Gp.res (kT (a_ [.bool]) Hm []))
noncomputable def aeg (N : Nat) (n : Nat) : St → Option Bool := itO (axe N) Gp 0 0 av2 n
noncomputable def Xb (N : Nat) (r : Txt) (n : Nat) : Int → Int → Option Bool := fun k4 i6 => aeg N n ⟨[(3, vv Ty.str r), (4, vv ak k4), (5, vv Ty.str r), (6, vv ak i6)], []⟩
theorem ah7 (N : Nat) : Xb N = JI N := fx2 fun r => bK (by kernel_rfl) fun n => by
 show _ = AZ N r (Xb N r n)
 kernel_rfl
theorem aoh (N : Nat) (code : List (Int)) : bg (a_ [.bool]) (az aS) (aZ (MI N)) bu N Gp Hm [⟨.slice di, code⟩] = F.ajp N code := by
 show _ = F.ani N (F.JI N) code
 rw [← ah7 N]
 kernel_rfl
def as1 (N : Nat) : ax := aQ Hm.ps Hm.fz Hm.rs [.bool] (F.ajp N)
theorem ap2 (N : Nat) : ay Tryz.prog 4 (as1 N) := aU (N := N) bz mixed (ah (l := MI N) (aT rfl (apX N) (aT rfl (ang N) (aT rfl (arf N) trivial)))) (aO _) avb (by decide) (aoh N)
end
end Go.MC
namespace Go.MC
theorem ayQ : (∀ {α : Type} (a b : List α), (a ++ b).length = a.length + b.length) ∧ (∀ {α : Type} (a : α) (l : List α), (a :: l).length = l.length + 1) ∧ ∀ {α : Type}, ([] : List α).length = 0 := ⟨fun _ _ => List.length_append, fun _ _ => rfl, rfl⟩
theorem aY : lim = 140737488355328 := rfl
theorem wr {n : Int} (h1 : -9223372036854775808 ≤ n) (h2 : n ≤ 9223372036854775807) : IntKind.i64.wrap n = n := by
 rw [IntKind.wrap_i64]; omega
theorem wrS {i : Nat} (h : i ≤ 1000000000000000000) : IntKind.i64.wrap ((i : Int) + 1) = ((i + 1 : Nat) : Int) := by
 rw [wr (by omega) (by omega)]; omega
theorem wrP {i : Nat} (h : i ≤ 1000000000000000000) (h0 : 0 < i) : IntKind.i64.wrap ((i : Int) - 1) = ((i - 1 : Nat) : Int) := by
 rw [wr (by omega) (by omega)]; omega
theorem au {α ρ : Type} {o : Option α} {a d : α} {B : α → Option ρ} (h : o = some a) : ob o d B = B a := by rw [h]; rfl
theorem dlt {i n : Nat} (h : i < n) : decide ((i : Int) < (n : Int)) = true := decide_eq_true (by omega)
theorem d_ (n : Nat) : decide ((n : Int) < (n : Int)) = false := decide_eq_false (by omega)
theorem dge (i : Nat) : decide ((0 : Int) ≤ (i : Int)) = true := decide_eq_true (by omega)
theorem gAt {α : Type} {l : List α} {i : Nat} (h : i < l.length) (d : α) : l.getD (Int.toNat (i : Int)) d = l[i] := by
 rw [Int.toNat_natCast, List.getD_eq_getElem?_getD, List.getElem?_eq_getElem h]; rfl
theorem xX {α : Type} {l : List α} {i : Nat} (d : α) : l.getD (Int.toNat (i : Int)) d = l.getD i d := by
 rw [Int.toNat_natCast]
theorem UJ (i : Nat) : decide ((i : Int) > 0) = !(i == 0) := by
 cases i <;> simp
def iV {α : Type} (p : Nat → α → Bool) : Nat → List α → Bool
 | _, [] => true
 | i, x :: xs => p i x && iV p (i + 1) xs
theorem gu {α : Type} {p : Nat → α → Bool} : ∀ {l : List α} {i : Nat}, iV p i l = true ↔ ∀ j x, l[j]? = some x → p (i + j) x = true
 | [], i => by simp [iV]
 | x :: xs, i => by
  simp only [iV, Bool.and_eq_true, gu (l := xs)]
  constructor
  ·rintro ⟨h1, h2⟩ j y hj
   cases j with
   | zero => simp at hj; subst hj; exact h1
   | succ j =>
    have := h2 j y (by simpa using hj)
    rwa [show i + 1 + j = i + (j + 1) by omega] at this
  ·intro h
   refine ⟨h 0 x rfl, fun j y hj => ?_⟩
   have := h (j + 1) y (by simpa using hj)
   rwa [show i + (j + 1) = i + 1 + j by omega] at this
theorem fU {α : Type} {p : α → Bool} : ∀ {l : List α} {i : Nat}, iV (fun _ x => p x) i l = l.all p
 | [], _ => rfl
 | x :: xs, i => by simp only [iV, List.all_cons, fU]
def mP {σ ρ : Type} (fin : σ → Option ρ) : σ ⊕ Option ρ → Option ρ
 | .inl s => fin s
 | .inr r => r
theorem iT {α σ ρ F : Type} (l : List α) (ap : F → Nat → σ → Option ρ) (z : F) (rd : F → F) (f : Nat → σ → α → σ ⊕ Option ρ) (fin : σ → Option ρ) (Inv : Nat → σ → Prop)
 (hstep : ∀ (g : F) (i : Nat) (st : σ) (h : i < l.length), Inv i st → ap (rd g) i st = mP (fun st' => ap g (i + 1) st') (f i st l[i]) ∧ ∀ st', f i st l[i] = .inl st' → Inv (i + 1) st')
 (hend : ∀ (g : F) (st : σ), Inv l.length st → ap (rd g) l.length st = fin st) (N : Nat) (hN : l.length < N) (st : σ) (h0 : Inv 0 st) :
 ap (lp z rd N) 0 st = mP fin (gJ f 0 l st) := by
 suffices H : ∀ (m i n : Nat) (st : σ), l.length - i = m → i ≤ l.length → m < n → Inv i st → ap (lp z rd n) i st = mP fin (gJ f i (l.drop i) st) by
  have := H l.length 0 N st (by omega) (by omega) hN h0
  rwa [List.drop_zero] at this
 intro m
 induction m with
 | zero =>
  intro i n st h1 h2 h3 h4
  obtain ⟨n, rfl⟩ : ∃ j, n = j + 1 := ⟨n - 1, by omega⟩
  have hi : i = l.length := by omega
  subst hi
  rw [List.drop_length]
  exact hend _ st h4
 | succ m ih =>
  intro i n st h1 h2 h3 h4
  obtain ⟨n, rfl⟩ : ∃ j, n = j + 1 := ⟨n - 1, by omega⟩
  have hlt : i < l.length := by omega
  obtain ⟨h5, h6⟩ := hstep (lp z rd n) i st hlt h4
  rw [List.drop_eq_getElem_cons hlt]
  simp only [gJ]
  refine h5.trans ?_
  cases hf : f i st l[i] with
  | inl st' => exact ih (i + 1) n st' (by omega) (by omega) (by omega) (h6 st' hf)
  | inr r => rfl
theorem dQ {α ρ : Type} (l : List α) (rd : (Int → Option ρ) → Int → Option ρ) (p : Nat → α → Bool) (r fin : Option ρ)
 (hstep : ∀ (g : Int → Option ρ) (i : Nat) (h : i < l.length), rd g (i : Int) = bif p i l[i] then g ((i + 1 : Nat) : Int) else r)
 (hend : ∀ (g : Int → Option ρ), rd g (l.length : Int) = fin) (N : Nat) (hN : l.length < N) : lp (fun _ => none) rd N 0 = bif iV p 0 l then fin else r := by
 have := iT l (fun (g : Int → Option ρ) i (_ : Unit) => g (i : Int)) (fun _ => none) rd (fun i _ x => bif p i x then .inl () else .inr r) (fun _ => fin) (fun _ _ => True)
  (fun g i st h _ => ⟨by
   rw [hstep g i h]
   cases p i l[i] <;> rfl, fun _ _ => trivial⟩) (fun g _ _ => hend g) N hN () trivial
 refine this.trans ?_
 have : ∀ (l : List α) i, mP (fun _ => fin) (gJ (fun i (_ : Unit) x => bif p i x then Sum.inl () else Sum.inr r) i l ()) = bif iV p i l then fin else r := by
  intro l
  induction l with
  | nil => intro i; rfl
  | cons x xs ih =>
   intro i
   simp only [gJ, iV]
   cases p i x with
   | true => simpa using ih (i + 1)
   | false => rfl
 exact this l 0
end Go.MC
namespace Go.MC
open Go.MC.F
def smT (s : Txt) : Prop := s.length ≤ 1048576
def smL (l : List Txt) : Prop := l.length ≤ 1048576 ∧ ∀ x ∈ l, smT x
def smU (u : Use) : Prop := smT u.1
def smW (w : aK) : Prop := smL w.2.2.1 ∧ (w.2.2.2.1.length ≤ 1048576 ∧ ∀ u ∈ w.2.2.2.1, smU u) ∧ smL w.2.2.2.2.1 ∧ smL w.2.2.2.2.2
def inB (n lo hi : Int) : Bool := decide (n ≥ lo) && decide (n ≤ hi)
theorem UM {N : Nat} (n lo hi : Int) : kR N n lo hi = some (inB n lo hi) := by
 unfold kR inB
 cases decide (n ≥ lo) <;> rfl
theorem zi {N : Nat} (n lo hi : Int) : mJ N n lo hi = some (inB n lo hi) := by
 unfold mJ inB
 cases decide (n ≥ lo) <;> rfl
def nmB (b : UInt8) : Bool := (decide ((b.toNat : Int) ≥ 97) && decide ((b.toNat : Int) ≤ 122)) || ((decide ((b.toNat : Int) ≥ 48) && decide ((b.toNat : Int) ≤ 57)) || ((b.toNat : Int) == 45))
def nP (s : Txt) : Bool := inB s.length 1 8 && s.all nmB
theorem y7 {N : Nat} (hN : lim < N) (s : Txt) : Yw N s = some (nP s) := by
 have hlim := aY
 unfold Yw alm nP
 rw [au (UM _ _ _)]
 cases hb : inB s.length 1 8 with
 | false => rfl
 | true =>
  have hl : s.length ≤ 8 := by
   simp only [inB, Bool.and_eq_true, decide_eq_true_eq] at hb
   omega
  refine (dQ s _ (fun _ x => nmB x) (some false) (some true) (fun g i hi => ?_) (fun g => ?_) N (by omega)).trans ?_
  ·unfold OX
   simp only [dlt hi, dge, gAt hi, cond_true, wrS (i := i) (by omega), nmB]
   generalize decide ((s[i].toNat : Int) ≥ 97) = a1
   generalize decide ((s[i].toNat : Int) ≤ 122) = a2
   generalize decide ((s[i].toNat : Int) ≥ 48) = a3
   generalize decide ((s[i].toNat : Int) ≤ 57) = a4
   generalize ((s[i].toNat : Int) == 45) = a5
   cases a1 <;> cases a2 <;> cases a3 <;> cases a4 <;> cases a5 <;> rfl
  ·unfold OX
   rw [d_]; rfl
  ·rw [fU]
   cases s.all nmB <;> rfl
theorem zV {N : Nat} (hN : lim < N) (s : Txt) : Ir N s = some (nP s) := by
 have hlim := aY
 unfold Ir adF nP
 rw [au (zi _ _ _)]
 cases hb : inB s.length 1 8 with
 | false => rfl
 | true =>
  have hl : s.length ≤ 8 := by
   simp only [inB, Bool.and_eq_true, decide_eq_true_eq] at hb
   omega
  refine (dQ s _ (fun _ x => nmB x) (some false) (some true) (fun g i hi => ?_) (fun g => ?_) N (by omega)).trans ?_
  ·unfold Ec
   simp only [dlt hi, dge, gAt hi, cond_true, wrS (i := i) (by omega), nmB]
   generalize decide ((s[i].toNat : Int) ≥ 97) = a1
   generalize decide ((s[i].toNat : Int) ≤ 122) = a2
   generalize decide ((s[i].toNat : Int) ≥ 48) = a3
   generalize decide ((s[i].toNat : Int) ≤ 57) = a4
   generalize ((s[i].toNat : Int) == 45) = a5
   cases a1 <;> cases a2 <;> cases a3 <;> cases a4 <;> cases a5 <;> rfl
  ·unfold Ec
   rw [d_]; rfl
  ·rw [fU]
   cases s.all nmB <;> rfl
def UO (l : List Txt) (i : Nat) (x : Txt) : Bool := i == 0 || Op.bytesLess (l.getD (i - 1) []) x
def fM (l : List Txt) (most : Int) : Bool := !decide ((l.length : Int) > most) && iV (fun i x => nP x && UO l i x) 0 l
theorem uo {N : Nat} (hN : lim < N) {l : List Txt} (hl : l.length ≤ lim) (most : Int) : U0 N l most = some (fM l most) := by
 have hlim := aY
 unfold U0 aqe fM
 cases hb : decide ((l.length : Int) > most) with
 | true => rfl
 | false =>
  refine (dQ l _ (fun i x => nP x && UO l i x) (some false) (some true) (fun g i hi => ?_) (fun g => ?_) N (by omega)).trans ?_
  ·unfold Pm UO
   simp only [dlt hi, dge, gAt hi, cond_true, wrS (i := i) (by omega), UJ]
   rw [au (y7 hN _)]
   cases nP l[i] with
   | false => rfl
   | true =>
    cases h0 : i == 0 with
    | true => simp
    | false =>
     have h0' : 0 < i := by simp at h0; omega
     simp only [Bool.not_true, Bool.not_false, cond_true, cond_false, wrP (show i ≤ 1000000000000000000 by omega) h0', dge, dlt (show i - 1 < l.length by omega), xX, Bool.false_or, Bool.true_and]
     cases Op.bytesLess (l.getD (i - 1) []) l[i] <;> rfl
  ·unfold Pm
   rw [d_]; rfl
  ·cases iV (fun i x => nP x && UO l i x) 0 l <;> rfl
theorem uY {N : Nat} (hN : lim < N) {l : List Txt} (hl : l.length ≤ lim) (most : Int) : yX N l most = some (fM l most) := by
 have hlim := aY
 unfold yX adw fM
 cases hb : decide ((l.length : Int) > most) with
 | true => rfl
 | false =>
  refine (dQ l _ (fun i x => nP x && UO l i x) (some false) (some true) (fun g i hi => ?_) (fun g => ?_) N (by omega)).trans ?_
  ·unfold Gm UO
   simp only [dlt hi, dge, gAt hi, cond_true, wrS (i := i) (by omega), UJ]
   rw [au (zV hN _)]
   cases nP l[i] with
   | false => rfl
   | true =>
    cases h0 : i == 0 with
    | true => simp
    | false =>
     have h0' : 0 < i := by simp at h0; omega
     simp only [Bool.not_true, Bool.not_false, cond_true, cond_false, wrP (show i ≤ 1000000000000000000 by omega) h0', dge, dlt (show i - 1 < l.length by omega), xX, Bool.false_or, Bool.true_and]
     cases Op.bytesLess (l.getD (i - 1) []) l[i] <;> rfl
  ·unfold Gm
   rw [d_]; rfl
  ·cases iV (fun i x => nP x && UO l i x) 0 l <;> rfl
theorem NQ {N : Nat} (hN : lim < N) {l : List Txt} (hl : l.length ≤ lim) (s : Txt) : xw N l s = some (l.contains s) := by
 have hlim := aY
 unfold xw ady
 refine (dQ l _ (fun _ x => !(x == s)) (some true) (some false) (fun g i hi => ?_) (fun g => ?_) N (by omega)).trans ?_
 ·unfold Jd
  simp only [dlt hi, dge, gAt hi, cond_true, wrS (i := i) (by omega)]
  cases l[i] == s <;> rfl
 ·unfold Jd
  rw [d_]; rfl
 ·rw [fU, List.contains_eq_any_beq]
  have : l.all (fun x => !(x == s)) = !(l.any fun a => s == a) := by
   rw [List.not_any_eq_all_not]
   congr 1; funext x
   rw [Bool.beq_comm]
  rw [this]
  cases l.any fun a => s == a <;> rfl
theorem JB {N : Nat} (hN : lim < N) {a b : List Txt} (ha : a.length ≤ lim) (hb : b.length ≤ lim) : QO N a b = some (a.any fun x => b.contains x) := by
 have hlim := aY
 unfold QO api
 refine (dQ a _ (fun _ x => !(b.contains x)) (some true) (some false) (fun g i hi => ?_) (fun g => ?_) N (by omega)).trans ?_
 ·unfold O8
  simp only [dlt hi, dge, gAt hi, cond_true, wrS (i := i) (by omega)]
  rw [au (NQ hN hb _)]
  cases b.contains a[i] <;> rfl
 ·unfold O8
  rw [d_]; rfl
 ·rw [fU]
  have : a.all (fun x => !(b.contains x)) = !(a.any fun x => b.contains x) := by rw [List.not_any_eq_all_not]
  rw [this]
  cases a.any fun x => b.contains x <;> rfl
def jo {α : Type} (p : α → Bool) : Nat → List α → Int
 | _, [] => -1
 | i, x :: xs => bif p x then (i : Int) else jo p (i + 1) xs
theorem ja {α : Type} (p : α → Bool) : ∀ (l : List α) (i : Nat), decide (jo p i l ≥ 0) = l.any p
 | [], _ => rfl
 | x :: xs, i => by
  simp only [jo, List.any_cons]
  by_cases h : p x = true
  ·simp [h]
  ·simpa [h] using ja p xs (i + 1)
theorem afi {α : Type} (l : List α) (rd : (Int → Option Int) → Int → Option Int) (p : α → Bool)
 (hstep : ∀ (g : Int → Option Int) (i : Nat) (h : i < l.length), rd g (i : Int) = bif p l[i] then some (i : Int) else g ((i + 1 : Nat) : Int))
 (hend : ∀ (g : Int → Option Int), rd g (l.length : Int) = some (-1)) (N : Nat) (hN : l.length < N) : lp (fun _ => none) rd N 0 = some (jo p 0 l) := by
 have := iT l (fun (g : Int → Option Int) i (_ : Unit) => g (i : Int)) (fun _ => none) rd (fun i _ x => bif p x then .inr (some (i : Int)) else .inl ()) (fun _ => some (-1)) (fun _ _ => True)
  (fun g i st h _ => ⟨by
   rw [hstep g i h]
   cases p l[i] <;> rfl, fun _ _ => trivial⟩) (fun g _ _ => hend g) N hN () trivial
 refine this.trans ?_
 have : ∀ (l : List α) i, mP (fun _ => some (-1)) (gJ (fun i (_ : Unit) x => bif p x then Sum.inr (some (i : Int)) else Sum.inl ()) i l ()) = some (jo p i l) := by
  intro l
  induction l with
  | nil => intro i; rfl
  | cons x xs ih =>
   intro i
   simp only [gJ, jo]
   cases p x with
   | false => simpa using ih (i + 1)
   | true => rfl
 exact this l 0
theorem abn {N : Nat} (hN : lim < N) {l : List Txt} (hl : l.length ≤ lim) (s : Txt) : aoo N l s = some (jo (fun x => s == x) 0 l) := by
 have hlim := aY
 unfold aoo anN
 refine afi l _ (fun x => s == x) (fun g i hi => ?_) (fun g => ?_) N (by omega)
 ·unfold OV
  simp only [dlt hi, dge, gAt hi, cond_true, wrS (i := i) (by omega)]
 ·unfold OV
  rw [d_]; rfl
theorem jk {N : Nat} (hN : lim < N) {l : List Txt} (hl : l.length ≤ lim) (s : Txt) : Gt N l s = some (l.contains s) := by
 unfold Gt
 rw [au (abn hN hl s), ja, List.contains_eq_any_beq]
theorem P5 {α γ : Type} (l : List α) (rd : (Int → γ → Option (Int × γ)) → Int → γ → Option (Int × γ)) (p : α → Bool) (c : γ)
 (hstep : ∀ (g : Int → γ → Option (Int × γ)) (i : Nat) (h : i < l.length), rd g (i : Int) c = bif p l[i] then some ((i : Int), c) else g ((i + 1 : Nat) : Int) c)
 (hend : ∀ (g : Int → γ → Option (Int × γ)), rd g (l.length : Int) c = some (-1, c)) (N : Nat) (hN : l.length < N) : lp (fun _ _ => none) rd N 0 c = some (jo p 0 l, c) := by
 have := iT l (fun (g : Int → γ → Option (Int × γ)) i (d : γ) => g (i : Int) d) (fun _ _ => none) rd (fun i d x => bif p x then .inr (some ((i : Int), d)) else .inl d) (fun d => some (-1, d)) (fun _ d => d = c)
  (fun g i st h hi => ⟨by
   subst hi
   rw [hstep g i h]
   cases p l[i] <;> rfl, fun st' hs => by
   subst hi
   cases hp : p l[i] with
   | true => rw [hp] at hs; cases hs
   | false => rw [hp] at hs; cases hs; rfl⟩) (fun g d hd => by subst hd; exact hend g) N hN c rfl
 refine this.trans ?_
 have : ∀ (l : List α) i, mP (fun d => some (-1, d)) (gJ (fun i (d : γ) x => bif p x then Sum.inr (some ((i : Int), d)) else Sum.inl d) i l c) = some (jo p i l, c) := by
  intro l
  induction l with
  | nil => intro i; rfl
  | cons x xs ih =>
   intro i
   simp only [gJ, jo]
   cases p x with
   | false => simpa using ih (i + 1)
   | true => rfl
 exact this l 0
theorem wz {N : Nat} (hN : lim < N) {a b : List Txt} (ha : a.length ≤ lim) (hb : b.length ≤ lim) : abq N a b = some (a.any fun x => b.contains x) := by
 have hlim := aY
 unfold abq f_9
 have h : amB N a b = some (jo (fun x => b.contains x) 0 a, b) := by
  unfold amB apT
  refine P5 a _ (fun x => b.contains x) b (fun g i hi => ?_) (fun g => ?_) N (by omega)
  ·unfold OA
   simp only [dlt hi, dge, gAt hi, cond_true, wrS (i := i) (by omega)]
   have h1 : amX N a[i] b = some (b.contains a[i], b) := by
    unfold amX
    rw [au (jk hN hb _)]
   rw [au h1]
  ·unfold OA
   rw [d_]; rfl
 rw [au (a := (a.any fun x => b.contains x, b)) (by rw [au h, ja])]
end Go.MC
namespace Go.MC
open Go.MC.F
def rdG (n : Int) (r : Rdr) : Prop := r.1.length ≤ 2000 ∧ (∀ x ∈ r.1, 0 ≤ x ∧ x ≤ 255) ∧ 0 ≤ r.2 ∧ r.2 ≤ n
theorem rdG.mono {m n : Int} {r : Rdr} (h : rdG m r) (hmn : m ≤ n) : rdG n r := ⟨h.1, h.2.1, h.2.2.1, Int.le_trans h.2.2.2 hmn⟩
theorem Ky {l : List Int} (h : ∀ x ∈ l, 0 ≤ x ∧ x ≤ 255) (i : Nat) : 0 ≤ l.getD i (Int.ofNat 0) ∧ l.getD i (Int.ofNat 0) ≤ 255 := by
 rw [List.getD_eq_getElem?_getD]
 cases hi : l[i]? with
 | none => exact ⟨by decide, by decide⟩
 | some x => exact h x (List.mem_of_getElem? hi)
theorem adr {a b : Int} (ha : 0 ≤ a) (ha2 : a < 4611686018427387904) (hb : 0 ≤ b) (hb2 : b < 4611686018427387904) : 0 ≤ IntKind.i64.wrap (((BitVec.ofInt IntKind.i64.bits a ^^^ BitVec.ofInt IntKind.i64.bits b).toNat : Nat) : Int) := by
 have h1 : (BitVec.ofInt IntKind.i64.bits a).toNat < 2 ^ 62 := by
  rw [BitVec.toNat_ofInt]
  have : (2 : Nat) ^ IntKind.i64.bits = 18446744073709551616 := by decide
  rw [this]
  omega
 have h2 : (BitVec.ofInt IntKind.i64.bits b).toNat < 2 ^ 62 := by
  rw [BitVec.toNat_ofInt]
  have : (2 : Nat) ^ IntKind.i64.bits = 18446744073709551616 := by decide
  rw [this]
  omega
 have h3 : (BitVec.ofInt IntKind.i64.bits a ^^^ BitVec.ofInt IntKind.i64.bits b).toNat < 2 ^ 62 := by
  rw [BitVec.toNat_xor]
  exact Nat.xor_lt_two_pow h1 h2
 rw [wr (by omega) (by omega)]
 omega
def dL {ρ : Type} (o : Option ρ) (P : ρ → Prop) : Prop := ∃ r, o = some r ∧ P r
theorem dL.some {ρ : Type} {r : ρ} {P : ρ → Prop} (h : P r) : dL (some r) P := ⟨r, rfl, h⟩
theorem dL.mono {ρ : Type} {o : Option ρ} {P Q : ρ → Prop} (h : dL o P) (hpq : ∀ r, P r → Q r) : dL o Q := let ⟨r, e, hr⟩ := h; ⟨r, e, hpq r hr⟩
theorem dL.ob {α ρ : Type} {o : Option α} {P : α → Prop} {B : α → Option ρ} {Q : ρ → Prop} {d : α} (h : dL o P) (hB : ∀ a, P a → dL (B a) Q) : dL (ob o d B) Q := by
 obtain ⟨a, rfl, hp⟩ := h; exact hB a hp
theorem gIf {ρ : Type} {p : Prop} [Decidable p] {x y : Option ρ} {Q : ρ → Prop} (hp : p) (h : dL x Q) : dL (bif decide p then x else y) Q := by rw [decide_eq_true hp]; exact h
theorem yS {ρ : Type} {p : Prop} [Decidable p] {x y : Option ρ} {Q : ρ → Prop} (hp : ¬ p) (h : dL y Q) : dL (bif decide p then x else y) Q := by rw [decide_eq_false hp]; exact h
theorem gBy {ρ : Type} {b : Bool} {x y : Option ρ} {Q : ρ → Prop} (h1 : b = true → dL x Q) (h2 : b = false → dL y Q) : dL (bif b then x else y) Q := by
 cases b
 ·exact h2 rfl
 ·exact h1 rfl
theorem rf {ρ : Type} {p : Prop} [Decidable p] {x y : Option ρ} {Q : ρ → Prop} (h1 : p → dL x Q) (h2 : ¬ p → dL y Q) : dL (bif decide p then x else y) Q :=
 gBy (fun h => h1 (of_decide_eq_true h)) fun h => h2 (of_decide_eq_false h)
theorem jU {σ ρ F : Type} (n : Nat) (ap : F → Nat → σ → Option ρ) {z : F} {rd : F → F} (Inv : Nat → σ → Prop) {Post : ρ → Prop}
 (hstep : ∀ (g : F) (i : Nat) (st : σ), i < n → Inv i st → (∀ st', Inv (i + 1) st' → dL (ap g (i + 1) st') Post) → dL (ap (rd g) i st) Post)
 (hend : ∀ (g : F) (st : σ), Inv n st → dL (ap (rd g) n st) Post) {N : Nat} (hN : n < N) {st : σ} (h0 : Inv 0 st) : dL (ap (lp z rd N) 0 st) Post := by
 suffices H : ∀ (m i k : Nat) (st : σ), n - i = m → i ≤ n → m < k → Inv i st → dL (ap (lp z rd k) i st) Post from H n 0 N st (by omega) (by omega) hN h0
 intro m
 induction m with
 | zero =>
  intro i k st h1 h2 h3 h4
  obtain ⟨k, rfl⟩ : ∃ j, k = j + 1 := ⟨k - 1, by omega⟩
  have hi : i = n := by omega
  subst hi
  exact hend _ st h4
 | succ m ih =>
  intro i k st h1 h2 h3 h4
  obtain ⟨k, rfl⟩ : ∃ j, k = j + 1 := ⟨k - 1, by omega⟩
  exact hstep _ i st (by omega) h4 fun st' hs => ih (i + 1) k st' (by omega) (by omega) (by omega) hs
theorem pick {N : Nat} {c : Int} {r : Rdr} (hr : rdG c r) (hc : c ≤ 1000000000000) {n : Int} (hn : 1 ≤ n) : ∃ k, gK N r n = some (k, r.1, r.2 + 1) ∧ 0 ≤ k ∧ k < n ∧ rdG (c + 1) (r.1, r.2 + 1) := by
 obtain ⟨h1, h2, h3, h4⟩ := hr
 have hg : rdG (c + 1) (r.1, r.2 + 1) := ⟨h1, h2, by show 0 ≤ r.2 + 1; omega, by show r.2 + 1 ≤ c + 1; omega⟩
 have w1 : IntKind.i64.wrap (r.2 + 1) = r.2 + 1 := wr (by omega) (by omega)
 have w2 : IntKind.i64.wrap (r.2 + 1 - 1) = r.2 := by rw [wr (by omega) (by omega)]; omega
 unfold gK
 simp only [w1, w2, decide_eq_false (show ¬ n < 1 by omega), cond_false, decide_eq_false (show ¬ n = 0 by omega), Bool.not_false, cond_true]
 have mod : ∀ x : Int, 0 ≤ x → 0 ≤ x.tmod n ∧ x.tmod n < n := fun x hx => ⟨Int.tmod_nonneg n hx, Int.tmod_lt_of_pos x (by omega)⟩
 cases hl : ((List.length r.1 : Int) == 0) with
 | true => exact ⟨0, rfl, by omega, by omega, hg⟩
 | false =>
  have hl0 : ¬ ((List.length r.1 : Nat) : Int) = 0 := beq_eq_false_iff_ne.1 hl
  have hlp : (0 : Int) < (List.length r.1 : Int) := by omega
  simp only [cond_false]
  by_cases hk : r.2 < (List.length r.1 : Int)
  ·simp only [decide_eq_true hk, decide_eq_true h3, cond_true]
   have hb := Ky h2 r.2.toNat
   have hw : IntKind.i64.wrap (List.getD r.1 r.2.toNat (Int.ofNat 0)) = List.getD r.1 r.2.toNat (Int.ofNat 0) := wr (by omega) (by omega)
   rw [hw]
   have := mod _ hb.1
   exact ⟨_, rfl, this.1, this.2, hg⟩
  ·have m1 : 0 ≤ r.2.tmod (List.length r.1 : Int) := Int.tmod_nonneg _ h3
   have m2 : r.2.tmod (List.length r.1 : Int) < (List.length r.1 : Int) := Int.tmod_lt_of_pos _ hlp
   have w3 : IntKind.i64.wrap (IntKind.i64.wrap (r.2 * 7) + 3) = r.2 * 7 + 3 := by rw [wr (n := r.2 * 7) (by omega) (by omega), wr (by omega) (by omega)]
   have m3 : 0 ≤ (r.2 * 7 + 3).tmod (List.length r.1 : Int) := Int.tmod_nonneg _ (by omega)
   have m4 : (r.2 * 7 + 3).tmod (List.length r.1 : Int) < (List.length r.1 : Int) := Int.tmod_lt_of_pos _ hlp
   simp only [decide_eq_false hk, cond_false, decide_eq_false hl0, Bool.not_false, cond_true, decide_eq_true m1, decide_eq_true m2, w3, decide_eq_true m3, decide_eq_true m4]
   have hb1 := Ky h2 (r.2.tmod (List.length r.1 : Int)).toNat
   have hb2 := Ky h2 ((r.2 * 7 + 3).tmod (List.length r.1 : Int)).toNat
   generalize List.getD r.1 (r.2.tmod (List.length r.1 : Int)).toNat (Int.ofNat 0) = b1 at hb1 ⊢
   generalize List.getD r.1 ((r.2 * 7 + 3).tmod (List.length r.1 : Int)).toNat (Int.ofNat 0) = b2 at hb2 ⊢
   have q1 : 0 ≤ r.2.tdiv (List.length r.1 : Int) := by rw [Int.tdiv_eq_ediv_of_nonneg h3]; exact Int.ediv_nonneg h3 (by omega)
   have q2 : r.2.tdiv (List.length r.1 : Int) ≤ r.2 := by rw [Int.tdiv_eq_ediv_of_nonneg h3]; exact Int.ediv_le_self _ h3
   generalize r.2.tdiv (List.length r.1 : Int) = q at q1 q2 ⊢
   have v1 : IntKind.i64.wrap b1 = b1 := wr (by omega) (by omega)
   have v2 : IntKind.i64.wrap b2 = b2 := wr (by omega) (by omega)
   have v3 : IntKind.i64.wrap (b1 * 131) = b1 * 131 := wr (by omega) (by omega)
   have v4 : IntKind.i64.wrap (b2 * 1117) = b2 * 1117 := wr (by omega) (by omega)
   have v5 : IntKind.i64.wrap (r.2 * 29) = r.2 * 29 := wr (by omega) (by omega)
   have v6 : IntKind.i64.wrap q = q := wr (by omega) (by omega)
   have v7 : IntKind.i64.wrap (q * 53) = q * 53 := wr (by omega) (by omega)
   have v8 : IntKind.i64.wrap (b1 * 131 + b2 * 1117) = b1 * 131 + b2 * 1117 := wr (by omega) (by omega)
   have v9 : IntKind.i64.wrap (b1 * 131 + b2 * 1117 + r.2 * 29) = b1 * 131 + b2 * 1117 + r.2 * 29 := wr (by omega) (by omega)
   have va : IntKind.i64.wrap (b1 * 131 + b2 * 1117 + r.2 * 29 + q * 53) = b1 * 131 + b2 * 1117 + r.2 * 29 + q * 53 := wr (by omega) (by omega)
   simp only [v1, v2, v3, v4, v5, v6, v7, v8, v9, va]
   have x1 : 0 ≤ b1 * 131 + b2 * 1117 + r.2 * 29 + q * 53 := by omega
   have x2 : b1 * 131 + b2 * 1117 + r.2 * 29 + q * 53 < 4611686018427387904 := by omega
   have x3 : 0 ≤ (b1 * 131 + b2 * 1117 + r.2 * 29 + q * 53).tdiv 64 := by rw [Int.tdiv_eq_ediv_of_nonneg x1]; omega
   have x4 : (b1 * 131 + b2 * 1117 + r.2 * 29 + q * 53).tdiv 64 < 4611686018427387904 := by rw [Int.tdiv_eq_ediv_of_nonneg x1]; omega
   have x5 : IntKind.i64.wrap ((b1 * 131 + b2 * 1117 + r.2 * 29 + q * 53).tdiv 64) = (b1 * 131 + b2 * 1117 + r.2 * 29 + q * 53).tdiv 64 := wr (by omega) (by omega)
   rw [x5]
   refine ⟨_, rfl, ?_, ?_, hg⟩
   ·exact Int.tmod_nonneg _ (adr x1 x2 x3 x4)
   ·exact Int.tmod_lt_of_pos _ (by omega)
theorem fK {N : Nat} {c : Int} {r : Rdr} (hr : rdG c r) (hc : c ≤ 1000000000000) {n : Int} (hn : 1 ≤ n) : dL (gK N r n) fun q => 0 ≤ q.1 ∧ q.1 < n ∧ rdG (c + 1) q.2 :=
 let ⟨k, h1, h2, h3, h4⟩ := pick hr hc hn
 ⟨_, h1, h2, h3, h4⟩
theorem aye {N : Nat} {c : Int} {r : Rdr} (hr : rdG c r) (hc : c ≤ 1000000000000) (n : Int) : dL (gK N r n) fun q => 0 ≤ q.1 ∧ (q.1 < n ∨ q.1 = 0) ∧ rdG (c + 1) q.2 := by
 by_cases hn : 1 ≤ n
 ·exact (fK hr hc hn).mono fun q h => ⟨h.1, .inl h.2.1, h.2.2⟩
 ·obtain ⟨h1, h2, h3, h4⟩ := hr
  unfold gK
  rw [decide_eq_true (show n < 1 by omega), wr (by omega) (by omega)]
  exact ⟨_, rfl, Int.le_refl 0, .inr rfl, h1, h2, by show 0 ≤ r.2 + 1; omega, by show r.2 + 1 ≤ c + 1; omega⟩
theorem Ui {α : Type} {l out : List α} {i : Nat} (hi : i < l.length) (h : out.Sublist (l.take i)) : out.Sublist (l.take (i + 1)) := by
 rw [List.take_add_one]; exact h.trans (List.sublist_append_left _ _)
theorem Yt {α : Type} {l out : List α} {i : Nat} (hi : i < l.length) (h : out.Sublist (l.take i)) : (out ++ [l[i]]).Sublist (l.take (i + 1)) := by
 rw [List.take_add_one, List.getElem?_eq_getElem hi]; exact h.append (List.Sublist.refl _)
end Go.MC
namespace Go.MC
open Go.MC.F
theorem wr3 {a b c : Nat} (ha : a ≤ 1048576) (hb : b ≤ 1048576) (hc : c ≤ 1048576) : IntKind.i64.wrap (IntKind.i64.wrap ((a : Int) + (b : Int)) + (c : Int)) = (a : Int) + (b : Int) + (c : Int) := by
 rw [wr (n := (a : Int) + (b : Int)) (by omega) (by omega), wr (by omega) (by omega)]
theorem dpz (n : Nat) : decide ((n : Int) > 0) = !decide (n = 0) := by cases n <;> simp
theorem dpn (n : Nat) : decide ((n : Int) > 0) = decide (n ≠ 0) := by cases n <;> simp
theorem ayJ {a b c : Nat} : ((a : Int) + (b : Int) + (c : Int) == 0) = !decide (a + b + c ≠ 0) := by
 by_cases h : a + b + c = 0
 ·rw [decide_eq_false (by omega)]
  exact beq_iff_eq.2 (by omega)
 ·rw [decide_eq_true h]
  exact beq_eq_false_iff_ne.2 (by omega)
theorem ayu {a b c : Nat} : decide ((a : Int) + (b : Int) + (c : Int) > 0) = decide (a + b + c ≠ 0) := by
 by_cases h : a + b + c = 0
 ·rw [decide_eq_false (by omega), decide_eq_false (by omega)]
 ·rw [decide_eq_true (by omega), decide_eq_true h]
def xy (w : aK) (i : Nat) (u : Use) : Bool :=
 nP u.1 && ((i == 0 || Op.bytesLess (w.2.2.2.1.getD (i - 1) bY).1 u.1) && (inB u.2.1 1 3 && (bif u.2.1 == 3 then u.2.2 == 0 else (w.2.1 == 1) && inB u.2.2 1 1000)))
def sZ (w : aK) : Bool := !decide ((w.2.2.2.1.length : Int) > 8) && iV (xy w) 0 w.2.2.2.1
def eU (w : aK) : Bool :=
 inB w.1 1 1000000 && (inB w.2.1 1 3 && (sZ w && (fM w.2.2.2.2.1 12 && (fM w.2.2.2.2.2 12 && (!(w.2.2.2.2.1.any fun x => w.2.2.2.2.2.contains x) &&
  (decide (w.2.2.2.1.length + w.2.2.2.2.1.length + w.2.2.2.2.2.length ≠ 0) && (((w.2.1 == 1) || decide (w.2.2.2.2.1.length = 0)) && (fM w.2.2.1 8 && ((w.2.1 == 1) == decide (w.2.2.1.length ≠ 0))))))))))
theorem alM {N : Nat} (hN : lim < N) (w : aK) : aqg N w = some (sZ w) := by
 have hlim := aY
 unfold aqg anh sZ
 cases hb : decide ((w.2.2.2.1.length : Int) > 8) with
 | true => rfl
 | false =>
  have hl : w.2.2.2.1.length ≤ 8 := by have := of_decide_eq_false hb; omega
  refine (dQ w.2.2.2.1 _ (xy w) (some false) (some true) (fun g i hi => ?_) (fun g => ?_) N (by omega)).trans ?_
  ·unfold O_ xy
   simp only [dlt hi, dge, gAt hi, cond_true, wrS (i := i) (by omega), UJ]
   rw [au (y7 hN _)]
   cases nP w.2.2.2.1[i].1 with
   | false => rfl
   | true =>
    have key : (ob (kR N w.2.2.2.1[i].2.1 1 3) false fun r => bif !r then some false else bif w.2.2.2.1[i].2.1 == 3 then bif w.2.2.2.1[i].2.2 != 0 then some false else bif w.2.2.2.1[i].2.1 != 3 then bif w.2.1 != 1 then some false else ob (kR N w.2.2.2.1[i].2.2 1 1000) false fun r => bif !r then some false else g ((i + 1 : Nat) : Int) else g ((i + 1 : Nat) : Int)
     else bif w.2.2.2.1[i].2.1 != 3 then bif w.2.1 != 1 then some false else ob (kR N w.2.2.2.1[i].2.2 1 1000) false fun r => bif !r then some false else g ((i + 1 : Nat) : Int) else g ((i + 1 : Nat) : Int)) =
     bif (inB w.2.2.2.1[i].2.1 1 3 && (bif w.2.2.2.1[i].2.1 == 3 then w.2.2.2.1[i].2.2 == 0 else (w.2.1 == 1) && inB w.2.2.2.1[i].2.2 1 1000)) then g ((i + 1 : Nat) : Int) else some false := by
     rw [au (UM _ _ _)]
     simp only [au (UM w.2.2.2.1[i].2.2 1 1000), bne]
     cases inB w.2.2.2.1[i].2.1 1 3 <;> cases (w.2.2.2.1[i].2.1 == 3) <;> cases (w.2.2.2.1[i].2.2 == 0) <;> cases (w.2.1 == 1) <;> cases inB w.2.2.2.1[i].2.2 1 1000 <;> rfl
    cases h0 : i == 0 with
    | true =>
     simp only [Bool.not_true, cond_false, Bool.true_or, Bool.true_and]
     exact key
    | false =>
     have h0' : 0 < i := by simp at h0; omega
     simp only [Bool.not_true, Bool.not_false, cond_true, cond_false, wrP (show i ≤ 1000000000000000000 by omega) h0', dge, dlt (show i - 1 < w.2.2.2.1.length by omega), xX, Bool.false_or, Bool.true_and]
     cases Op.bytesLess (w.2.2.2.1.getD (i - 1) bY).1 w.2.2.2.1[i].1 with
     | false => rfl
     | true => exact key
  ·unfold O_
   rw [d_]; rfl
  ·cases iV (xy w) 0 w.2.2.2.1 <;> rfl
theorem Ro {N : Nat} (hN : lim < N) {w : aK} (h : smW w) : aii N w = some (eU w) := by
 have hlim := aY
 obtain ⟨h1, h2, h3, h4⟩ := h
 have l1 := h1.1
 have l2 := h2.1
 have l3 := h3.1
 have l4 := h4.1
 unfold aii eU
 rw [wr3 l2 l3 l4]
 rw [au (UM _ _ _)]
 simp only [au (UM w.2.1 1 3), au (alM hN w), au (uo hN (show w.2.2.2.2.1.length ≤ lim by omega) 12), au (uo hN (show w.2.2.2.2.2.length ≤ lim by omega) 12), au (JB hN (show w.2.2.2.2.1.length ≤ lim by omega) (show w.2.2.2.2.2.length ≤ lim by omega)), au (uo hN (show w.2.2.1.length ≤ lim by omega) 8), bne]
 rw [ayJ]
 rw [dpz w.2.2.2.2.1.length]
 rw [dpn w.2.2.1.length]
 generalize inB w.1 1 1000000 = x0
 generalize inB w.2.1 1 3 = x1
 generalize sZ w = x2
 generalize fM w.2.2.2.2.1 12 = x3
 generalize fM w.2.2.2.2.2 12 = x4
 generalize (w.2.2.2.2.1.any fun x => w.2.2.2.2.2.contains x) = x5
 generalize decide (w.2.2.2.1.length + w.2.2.2.2.1.length + w.2.2.2.2.2.length ≠ 0) = x6
 generalize (w.2.1 == 1) = x7
 generalize decide (w.2.2.2.2.1.length = 0) = x8
 generalize fM w.2.2.1 8 = x9
 generalize decide (w.2.2.1.length ≠ 0) = x10
 revert x0 x1 x2 x3 x4 x5 x6 x7 x8 x9 x10
 decide +kernel
theorem QP {N : Nat} (hN : lim < N) {w : aK} (h : smW w) : aka N w = some (eU w) := by
 have hlim := aY
 obtain ⟨h1, h2, h3, h4⟩ := h
 have l1 := h1.1
 have l2 := h2.1
 have l3 := h3.1
 have l4 := h4.1
 unfold aka aoi
 rw [au (zi _ _ _)]
 simp only [au (zi w.2.1 1 3), au (uY hN (show w.2.2.1.length ≤ lim by omega) 8)]
 have loop : ZA N w (w.2.1 == 1) (w.2.2.2.1.length : Int) N 0 = bif iV (xy w) 0 w.2.2.2.1 then (A8 N w (w.2.1 == 1) (w.2.2.2.1.length : Int) (fun _ => none) (w.2.2.2.1.length : Int)) else some false := by
  refine dQ w.2.2.2.1 _ (xy w) (some false) _ (fun g i hi => ?_) (fun g => ?_) N (by omega)
  ·unfold A8 xy
   simp only [dlt hi, dge, gAt hi, cond_true, wrS (i := i) (by omega), UJ]
   rw [au (zV hN _)]
   cases nP w.2.2.2.1[i].1 with
   | false => rfl
   | true =>
    have key : (ob (mJ N w.2.2.2.1[i].2.1 1 3) false fun r => bif !r then some false else bif w.2.2.2.1[i].2.1 == 3 then bif w.2.2.2.1[i].2.2 != 0 then some false else g ((i + 1 : Nat) : Int)
     else bif !(w.2.1 == 1) then some false else ob (mJ N w.2.2.2.1[i].2.2 1 1000) false fun r => bif !r then some false else g ((i + 1 : Nat) : Int)) =
     bif (inB w.2.2.2.1[i].2.1 1 3 && (bif w.2.2.2.1[i].2.1 == 3 then w.2.2.2.1[i].2.2 == 0 else (w.2.1 == 1) && inB w.2.2.2.1[i].2.2 1 1000)) then g ((i + 1 : Nat) : Int) else some false := by
     rw [au (zi _ _ _)]
     simp only [au (zi w.2.2.2.1[i].2.2 1 1000), bne]
     cases inB w.2.2.2.1[i].2.1 1 3 <;> cases (w.2.2.2.1[i].2.1 == 3) <;> cases (w.2.2.2.1[i].2.2 == 0) <;> cases (w.2.1 == 1) <;> cases inB w.2.2.2.1[i].2.2 1 1000 <;> rfl
    cases h0 : i == 0 with
    | true =>
     simp only [Bool.not_true, cond_false, Bool.true_or, Bool.true_and]
     exact key
    | false =>
     have h0' : 0 < i := by simp at h0; omega
     simp only [Bool.not_true, Bool.not_false, cond_true, cond_false, wrP (show i ≤ 1000000000000000000 by omega) h0', dge, dlt (show i - 1 < w.2.2.2.1.length by omega), xX, Bool.false_or, Bool.true_and]
     cases Op.bytesLess (w.2.2.2.1.getD (i - 1) bY).1 w.2.2.2.1[i].1 with
     | false => rfl
     | true => exact key
  ·unfold A8
   rw [d_]; rfl
 rw [loop]
 unfold A8 eU sZ
 rw [d_, cond_false, wr3 l2 l3 l4]
 rw [au (uY hN (show w.2.2.2.2.1.length ≤ lim by omega) 12)]
 simp only [au (uY hN (show w.2.2.2.2.2.length ≤ lim by omega) 12), au (wz hN (show w.2.2.2.2.1.length ≤ lim by omega) (show w.2.2.2.2.2.length ≤ lim by omega))]
 rw [ayu]
 rw [dpz w.2.2.2.2.1.length]
 rw [dpn w.2.2.1.length]
 generalize inB w.1 1 1000000 = x0
 generalize inB w.2.1 1 3 = x1
 generalize fM w.2.2.1 8 = x2
 generalize (w.2.1 == 1) = x3
 generalize decide (w.2.2.1.length ≠ 0) = x4
 generalize decide ((w.2.2.2.1.length : Int) > 8) = x5
 generalize iV (xy w) 0 w.2.2.2.1 = x6
 generalize fM w.2.2.2.2.1 12 = x7
 generalize fM w.2.2.2.2.2 12 = x8
 generalize (w.2.2.2.2.1.any fun x => w.2.2.2.2.2.contains x) = x9
 generalize decide (w.2.2.2.2.1.length = 0) = x10
 generalize decide (w.2.2.2.1.length + w.2.2.2.2.1.length + w.2.2.2.2.2.length ≠ 0) = x11
 revert x0 x1 x2 x3 x4 x5 x6 x7 x8 x9 x10 x11
 decide +kernel
end Go.MC
namespace Go.MC
open Go.MC.F
def smF (f : Foe) : Prop := smT f.1 ∧ smT f.2
def smS (s : bi) : Prop := smT s.1 ∧ smL s.2.2.2.2
def smP (p : dm) : Prop := smW p.1
def smB (b : af) : Prop := (b.1.length ≤ 1048576 ∧ ∀ f ∈ b.1, smF f) ∧ (b.2.1.length ≤ 1048576 ∧ ∀ s ∈ b.2.1, smS s) ∧ smL b.2.2.1 ∧ (b.2.2.2.1.length ≤ 1048576 ∧ ∀ p ∈ b.2.2.2.1, smP p)
end Go.MC
namespace Go.MC
open Go.MC.F
theorem iK : ∀ l : Txt, Op.bytesLess l l = false
 | [] => rfl
 | a :: x => by
  have : ¬ a < a := UInt8.lt_irrefl a
  simp [Op.bytesLess, this, iK x]
theorem not_any {α : Type} (l : List α) (p : α → Bool) : l.all (fun x => !p x) = !l.any p := by rw [List.not_any_eq_all_not]
theorem as2 {α : Type} (l : List α) (p : α → Bool) : l.any (fun x => !p x) = !l.all p := by rw [List.not_all_eq_any_not]
def ry (b : af) (x y : Txt) : Bool := b.1.any fun f => (f.1 == x && f.2 == y) || (f.1 == y && f.2 == x)
def ik (b : af) (x y : List Txt) : Bool := b.1.any fun f => (x.contains f.1 && y.contains f.2) || (x.contains f.2 && y.contains f.1)
theorem ab3 (b : af) (x y : List Txt) : ik b x y = x.any fun u => y.any fun v => ry b u v := by
 rw [Bool.eq_iff_iff]
 simp only [ik, ry, List.any_eq_true, Bool.or_eq_true, Bool.and_eq_true, List.contains_iff_mem, beq_iff_eq]
 constructor
 ·rintro ⟨f, hf, ⟨h1, h2⟩ | ⟨h1, h2⟩⟩
  ·exact ⟨f.1, h1, f.2, h2, f, hf, .inl ⟨rfl, rfl⟩⟩
  ·exact ⟨f.2, h1, f.1, h2, f, hf, .inr ⟨rfl, rfl⟩⟩
 ·rintro ⟨u, hu, v, hv, f, hf, ⟨rfl, rfl⟩ | ⟨rfl, rfl⟩⟩
  ·exact ⟨f, hf, .inl ⟨hu, hv⟩⟩
  ·exact ⟨f, hf, .inr ⟨hu, hv⟩⟩
theorem axw {N : Nat} (hN : lim < N) {b : af} (hb : b.1.length ≤ 1048576) (x y : Txt) : ak3 N b x y = some (ry b x y) := by
 have hlim := aY
 unfold ak3 amS
 refine (dQ b.1 _ (fun _ f => !((f.1 == x && f.2 == y) || (f.1 == y && f.2 == x))) (some true) (some false) (fun g i hi => ?_) (fun g => ?_) N (by omega)).trans ?_
 ·unfold Qx
  simp only [dlt hi, dge, gAt hi, cond_true, wrS (i := i) (by omega)]
  generalize (b.1[i].1 == x) = a1
  generalize (b.1[i].2 == y) = a2
  generalize (b.1[i].1 == y) = a3
  generalize (b.1[i].2 == x) = a4
  cases a1 <;> cases a2 <;> cases a3 <;> cases a4 <;> rfl
 ·unfold Qx
  rw [d_]; rfl
 ·rw [fU, not_any]
  unfold ry
  cases b.1.any fun f => (f.1 == x && f.2 == y) || (f.1 == y && f.2 == x) <;> rfl
theorem afP {N : Nat} (hN : lim < N) {b : af} (hb : b.1.length ≤ 1048576) (x : Txt) {may : List Txt} (hm : may.length ≤ 1048576) : aju N b x may = some (may.any fun v => ry b x v) := by
 have hlim := aY
 unfold aju aoa
 refine (dQ may _ (fun _ v => !(ry b x v)) (some true) (some false) (fun g i hi => ?_) (fun g => ?_) N (by omega)).trans ?_
 ·unfold Ox
  simp only [dlt hi, dge, gAt hi, cond_true, wrS (i := i) (by omega)]
  rw [au (axw hN hb _ _)]
  cases ry b x may[i] <;> rfl
 ·unfold Ox
  rw [d_]; rfl
 ·rw [fU, not_any]
  cases may.any fun v => ry b x v <;> rfl
theorem QX {N : Nat} (hN : lim < N) {b : af} (hb : b.1.length ≤ 1048576) {x y : List Txt} (hx : x.length ≤ 1048576) (hy : y.length ≤ 1048576) : Yh N b x y = some (ik b x y) := by
 have hlim := aY
 unfold Yh an7
 refine (dQ b.1 _ (fun _ f => !((x.contains f.1 && y.contains f.2) || (x.contains f.2 && y.contains f.1))) (some true) (some false) (fun g i hi => ?_) (fun g => ?_) N (by omega)).trans ?_
 ·unfold PR
  simp only [dlt hi, dge, gAt hi, cond_true, wrS (i := i) (by omega)]
  simp only [au (jk hN (show x.length ≤ lim by omega) _), au (jk hN (show y.length ≤ lim by omega) _)]
  generalize x.contains b.1[i].1 = a1
  generalize y.contains b.1[i].2 = a2
  generalize x.contains b.1[i].2 = a3
  generalize y.contains b.1[i].1 = a4
  cases a1 <;> cases a2 <;> cases a3 <;> cases a4 <;> rfl
 ·unfold PR
  rw [d_]; rfl
 ·rw [fU, not_any]
  unfold ik
  cases b.1.any fun f => (x.contains f.1 && y.contains f.2) || (x.contains f.2 && y.contains f.1) <;> rfl
def RN (f g : Foe) : Bool := Op.bytesLess f.1 g.1 || (f.1 == g.1 && Op.bytesLess f.2 g.2)
def uj (b : af) (i : Nat) (f : Foe) : Bool := nP f.1 && (nP f.2 && (Op.bytesLess f.1 f.2 && (i == 0 || RN (b.1.getD (i - 1) jd) f)))
def oZ (b : af) : Bool := !decide ((b.1.length : Int) > 12) && iV (uj b) 0 b.1
theorem aio {N : Nat} (f g : Foe) : ap3 N f g = some (RN f g) := by
 unfold ap3 RN
 cases Op.bytesLess f.1 g.1 <;> cases (f.1 == g.1) <;> rfl
theorem aoX {N : Nat} (hN : lim < N) (b : af) : aoT N b = some (oZ b) := by
 have hlim := aY
 unfold aoT amD oZ
 cases hb : decide ((b.1.length : Int) > 12) with
 | true => rfl
 | false =>
  have hl : b.1.length ≤ 12 := by have := of_decide_eq_false hb; omega
  refine (dQ b.1 _ (uj b) (some false) (some true) (fun g i hi => ?_) (fun g => ?_) N (by omega)).trans ?_
  ·unfold O6 uj
   simp only [dlt hi, dge, gAt hi, cond_true, wrS (i := i) (by omega), UJ]
   rw [au (y7 hN _)]
   simp only [au (y7 hN b.1[i].2)]
   cases nP b.1[i].1 with
   | false => rfl
   | true =>
    cases nP b.1[i].2 with
    | false => rfl
    | true =>
     cases Op.bytesLess b.1[i].1 b.1[i].2 with
     | false => rfl
     | true =>
      cases h0 : i == 0 with
      | true => rfl
      | false =>
       have h0' : 0 < i := by simp at h0; omega
       simp only [Bool.not_true, Bool.not_false, cond_true, cond_false, wrP (show i ≤ 1000000000000000000 by omega) h0', dge, dlt (show i - 1 < b.1.length by omega), xX, Bool.false_or, Bool.true_and, RN]
       cases he : (b.1.getD (i - 1) jd).1 == b.1[i].1 with
       | false => cases Op.bytesLess (b.1.getD (i - 1) jd).1 b.1[i].1 <;> rfl
       | true =>
        rw [eq_of_beq he, iK]
        cases Op.bytesLess (b.1.getD (i - 1) jd).2 b.1[i].2 <;> rfl
  ·unfold O6
   rw [d_]; rfl
  ·cases iV (uj b) 0 b.1 <;> rfl
def atB (b : af) (n : Txt) : Int := jo (fun s : bi => s.1 == n) 0 b.2.1
theorem Cm {N : Nat} (hN : lim < N) {b : af} (hb : b.2.1.length ≤ 1048576) (n : Txt) : xR N b n = some (atB b n) := by
 have hlim := aY
 unfold xR afl atB
 refine afi b.2.1 _ (fun s : bi => s.1 == n) (fun g i hi => ?_) (fun g => ?_) N (by omega)
 ·unfold Es
  simp only [dlt hi, dge, gAt hi, cond_true, wrS (i := i) (by omega)]
 ·unfold Es
  rw [d_]; rfl
theorem Dq {N : Nat} (hN : lim < N) {b : af} (hb : b.2.1.length ≤ 1048576) (n : Txt) : IX N b n = some (atB b n) := by
 have hlim := aY
 unfold IX atB
 have h : f_3 N b.2.1 n = some (jo (fun s : bi => s.1 == n) 0 b.2.1, n) := by
  unfold f_3 aw2
  refine P5 b.2.1 _ (fun s : bi => s.1 == n) n (fun g i hi => ?_) (fun g => ?_) N (by omega)
  ·unfold Y0
   simp only [dlt hi, dge, gAt hi, cond_true, wrS (i := i) (by omega)]
   rw [au (show auU N b.2.1[i] n = some (b.2.1[i].1 == n, n) from rfl)]
  ·unfold Y0
   rw [d_]; rfl
 rw [au h]
theorem Ph {α : Type} (p : α → Bool) : ∀ (l : List α) (i : Nat), 0 ≤ jo p i l → jo p i l < i + l.length
 | [], _, h => by simp [jo] at h
 | x :: xs, i, h => by
  simp only [jo] at h ⊢
  by_cases hp : p x = true
  ·simp only [hp, cond_true, List.length_cons] at h ⊢; omega
  ·have hp : p x = false := by simpa using hp
   simp only [hp, cond_false, List.length_cons] at h ⊢
   have := Ph p xs (i + 1) h
   omega
theorem am2 {N : Nat} (hN : lim < N) {a b : List Txt} (ha : a.length ≤ 1048576) (hb : b.length ≤ 1048576) : uN N a b = some (a.all fun x => b.contains x) := by
 have hlim := aY
 unfold uN aea
 refine (dQ a _ (fun _ x => b.contains x) (some false) (some true) (fun g i hi => ?_) (fun g => ?_) N (by omega)).trans ?_
 ·unfold Gq
  simp only [dlt hi, dge, gAt hi, cond_true, wrS (i := i) (by omega)]
  rw [au (NQ hN (show b.length ≤ lim by omega) _)]
  cases b.contains a[i] <;> rfl
 ·unfold Gq
  rw [d_]; rfl
 ·rw [fU]
  cases a.all fun x => b.contains x <;> rfl
theorem qR {N : Nat} (hN : lim < N) {a b : List Txt} (ha : a.length ≤ 1048576) (hb : b.length ≤ 1048576) : JF N a b = some (a.all fun x => b.contains x) := by
 have hlim := aY
 unfold JF auz
 have h : anZ N a b = some (jo (fun x => !b.contains x) 0 a, b) := by
  unfold anZ alg
  refine P5 a _ (fun x => !b.contains x) b (fun g i hi => ?_) (fun g => ?_) N (by omega)
  ·unfold Qa
   simp only [dlt hi, dge, gAt hi, cond_true, wrS (i := i) (by omega)]
   have h1 : apH N a[i] b = some (!b.contains a[i], b) := by
    unfold apH
    rw [au (jk hN (show b.length ≤ lim by omega) _)]
   rw [au h1]
  ·unfold Qa
   rw [d_]; rfl
 rw [au (a := (!(a.all fun x => b.contains x), b)) (by rw [au h, ja, as2]), Bool.not_not]
def fV (b : af) (w : aK) : Bool := (w.2.2.2.1.all fun u => !decide (atB b u.1 < 0)) && ((w.2.2.2.2.1.all fun x => b.2.2.1.contains x) && (w.2.2.2.2.2.all fun x => b.2.2.1.contains x))
theorem ahn {N : Nat} (hN : lim < N) {b : af} {w : aK} (hb : smB b) (hw : smW w) : akb N b w = some (fV b w) := by
 have hlim := aY
 have h1 := hw.2.1.1
 have h2 : w.2.2.2.2.1.length ≤ 1048576 := hw.2.2.1.1
 have h3 : w.2.2.2.2.2.length ≤ 1048576 := hw.2.2.2.1
 have h4 : b.2.2.1.length ≤ 1048576 := hb.2.2.1.1
 have h5 := hb.2.1.1
 unfold akb am5 fV
 have k4 : Kq N b w N 0 = some (w.2.2.2.2.2.all fun x => b.2.2.1.contains x) := by
  refine (dQ w.2.2.2.2.2 _ (fun _ x => b.2.2.1.contains x) (some false) (some true) (fun g i hi => ?_) (fun g => ?_) N (by omega)).trans ?_
  ·unfold PW
   simp only [dlt hi, dge, gAt hi, cond_true, wrS (i := i) (by omega)]
   rw [au (NQ hN (show b.2.2.1.length ≤ lim by omega) _)]
   cases b.2.2.1.contains w.2.2.2.2.2[i] <;> rfl
  ·unfold PW
   rw [d_]; rfl
  ·rw [fU]
   cases w.2.2.2.2.2.all fun x => b.2.2.1.contains x <;> rfl
 have k2 : LZ N b w N 0 = some ((w.2.2.2.2.1.all fun x => b.2.2.1.contains x) && (w.2.2.2.2.2.all fun x => b.2.2.1.contains x)) := by
  refine (dQ w.2.2.2.2.1 _ (fun _ x => b.2.2.1.contains x) (some false) (Kq N b w N 0) (fun g i hi => ?_) (fun g => ?_) N (by omega)).trans ?_
  ·unfold PU
   simp only [dlt hi, dge, gAt hi, cond_true, wrS (i := i) (by omega)]
   rw [au (NQ hN (show b.2.2.1.length ≤ lim by omega) _)]
   cases b.2.2.1.contains w.2.2.2.2.1[i] <;> rfl
  ·unfold PU
   rw [d_]; rfl
  ·rw [fU, k4]
   cases w.2.2.2.2.1.all fun x => b.2.2.1.contains x <;> rfl
 refine (dQ w.2.2.2.1 _ (fun _ u => !decide (atB b u.1 < 0)) (some false) (LZ N b w N 0) (fun g i hi => ?_) (fun g => ?_) N (by omega)).trans ?_
 ·unfold Qj
  simp only [dlt hi, dge, gAt hi, cond_true, wrS (i := i) (by omega)]
  rw [au (Cm hN h5 _)]
  cases decide (atB b w.2.2.2.1[i].1 < 0) <;> rfl
 ·unfold Qj
  rw [d_]; rfl
 ·rw [fU, k2]
  cases w.2.2.2.1.all fun u => !decide (atB b u.1 < 0) <;> rfl
theorem VJ {N : Nat} (hN : lim < N) {b : af} {w : aK} (hb : smB b) (hw : smW w) : ajW N b w = some (fV b w) := by
 have hlim := aY
 have h1 := hw.2.1.1
 have h2 : w.2.2.2.2.1.length ≤ 1048576 := hw.2.2.1.1
 have h3 : w.2.2.2.2.2.length ≤ 1048576 := hw.2.2.2.1
 have h4 : b.2.2.1.length ≤ 1048576 := hb.2.2.1.1
 have h5 := hb.2.1.1
 unfold ajW aq7 fV
 refine (dQ w.2.2.2.1 _ (fun _ u => !decide (atB b u.1 < 0)) (some false) (some ((w.2.2.2.2.1.all fun x => b.2.2.1.contains x) && (w.2.2.2.2.2.all fun x => b.2.2.1.contains x))) (fun g i hi => ?_) (fun g => ?_) N (by omega)).trans ?_
 ·unfold OW
  simp only [dlt hi, dge, gAt hi, cond_true, wrS (i := i) (by omega)]
  rw [au (Dq hN h5 _)]
  cases decide (atB b w.2.2.2.1[i].1 < 0) <;> rfl
 ·unfold OW
  rw [d_, cond_false, au (qR hN h2 h4)]
  simp only [au (qR hN h3 h4)]
  cases w.2.2.2.2.1.all fun x => b.2.2.1.contains x <;> rfl
 ·rw [fU]
  cases w.2.2.2.1.all fun u => !decide (atB b u.1 < 0) <;> rfl
def rZ (s : bi) (w : aK) (u : Use) : Bool :=
 !((w.2.1 == 2) && decide (s.2.2.2.1 > 0)) && (!((w.2.1 == 1) && (!(u.2.1 == 2) && !(s.2.2.2.2.all fun x => w.2.2.1.contains x))) && (!((w.2.1 == 1) && (!(u.2.1 == 1) && !(w.2.2.1.all fun x => s.2.2.2.2.contains x))) && decide (IntKind.i64.wrap (s.2.2.1 + u.2.2) ≤ s.2.2.2.1)))
theorem asR {N : Nat} (hN : lim < N) {s : bi} {w : aK} (hs : smS s) (hw : smW w) (u : Use) : alK N s w u = some (rZ s w u) := by
 unfold alK rZ
 simp only [au (am2 hN hs.2.1 hw.1.1), au (am2 hN hw.1.1 hs.2.1), bne]
 generalize (w.2.1 == 2) = x0
 generalize decide (s.2.2.2.1 > 0) = x1
 generalize (w.2.1 == 1) = x2
 generalize (u.2.1 == 2) = x3
 generalize (u.2.1 == 1) = x4
 generalize (s.2.2.2.2.all fun x => w.2.2.1.contains x) = x5
 generalize (w.2.2.1.all fun x => s.2.2.2.2.contains x) = x6
 generalize decide (IntKind.i64.wrap (s.2.2.1 + u.2.2) ≤ s.2.2.2.1) = x7
 revert x0 x1 x2 x3 x4 x5 x6 x7
 decide +kernel
def dh (b : af) (n : Txt) : bi := b.2.1.getD (atB b n).toNat aJ
def qy (b : af) (p : dm) : Bool := !decide (p.1.1 > b.2.2.2.2) && (eU p.1 && (fV b p.1 && p.1.2.2.2.1.all fun u => rZ (dh b u.1) p.1 u))
theorem jr {b : af} {w : aK} (h : fV b w = true) {i : Nat} (hi : i < w.2.2.2.1.length) : 0 ≤ atB b w.2.2.2.1[i].1 ∧ atB b w.2.2.2.1[i].1 < b.2.1.length := by
 simp only [fV, Bool.and_eq_true] at h
 have h1 := List.all_eq_true.1 h.1 _ (List.getElem_mem hi)
 have h2 : 0 ≤ atB b w.2.2.2.1[i].1 := by
  have : ¬ atB b w.2.2.2.1[i].1 < 0 := by simpa using h1
  omega
 refine ⟨h2, ?_⟩
 have := Ph (fun s : bi => s.1 == w.2.2.2.1[i].1) b.2.1 0 h2
 unfold atB
 omega
theorem j_ {α : Type} {l : List α} {i : Nat} (h : i < l.length) (d : α) : l.getD i d ∈ l := by
 rw [List.getD_eq_getElem?_getD, List.getElem?_eq_getElem h]
 exact List.getElem_mem h
theorem ql {b : af} {n : Txt} (h : 0 ≤ atB b n) (h2 : atB b n < b.2.1.length) : dh b n ∈ b.2.1 := j_ (by omega) _
theorem amV {N : Nat} (hN : lim < N) {b : af} {p : dm} (hb : smB b) (hp : smP p) : aoc N b p = some (qy b p) := by
 have hlim := aY
 have h1 := hp.2.1.1
 unfold aoc aqy qy
 rw [au (Ro hN hp)]
 simp only [au (ahn hN hb hp)]
 cases eU p.1 with
 | false => cases decide (p.1.1 > b.2.2.2.2) <;> rfl
 | true =>
  cases decide (p.1.1 > b.2.2.2.2) with
  | true => rfl
  | false =>
   cases hk : fV b p.1 with
   | false => rfl
   | true =>
    refine (dQ p.1.2.2.2.1 _ (fun _ u => rZ (dh b u.1) p.1 u) (some false) (some true) (fun g i hi => ?_) (fun g => ?_) N (by omega)).trans ?_
    ·obtain ⟨h2, h3⟩ := jr hk hi
     unfold Qb
     simp only [dlt hi, dge, gAt hi, cond_true, wrS (i := i) (by omega)]
     rw [au (Cm hN hb.2.1.1 _), decide_eq_true h2, decide_eq_true h3]
     simp only [cond_true, show b.2.1.getD (atB b p.1.2.2.2.1[i].1).toNat aJ = dh b p.1.2.2.2.1[i].1 from rfl]
     rw [au (asR hN (hb.2.1.2 _ (ql h2 h3)) hp _)]
     cases rZ (dh b p.1.2.2.2.1[i].1) p.1 p.1.2.2.2.1[i] <;> rfl
    ·unfold Qb
     rw [d_]; rfl
    ·rw [fU]
     cases p.1.2.2.2.1.all fun u => rZ (dh b u.1) p.1 u <;> rfl
theorem Ry {N : Nat} (hN : lim < N) {b : af} {p : dm} (hb : smB b) (hp : smP p) (hm : ∀ s ∈ b.2.1, 0 ≤ s.2.2.2.1) : akD N b p = some (qy b p) := by
 have hlim := aY
 have h1 := hp.2.1.1
 unfold akD apz qy
 cases decide (p.1.1 > b.2.2.2.2) with
 | true => rfl
 | false =>
  simp only [cond_false, Bool.not_false, Bool.true_and, au (QP hN hp), au (VJ hN hb hp)]
  cases eU p.1 with
  | false => rfl
  | true =>
   cases hk : fV b p.1 with
   | false => rfl
   | true =>
    refine (dQ p.1.2.2.2.1 _ (fun _ u => rZ (dh b u.1) p.1 u) (some false) (some true) (fun g i hi => ?_) (fun g => ?_) N (by omega)).trans ?_
    ·obtain ⟨h2, h3⟩ := jr hk hi
     have hmem := ql h2 h3
     have hmost := hm _ hmem
     unfold P_
     simp only [dlt hi, dge, gAt hi, cond_true, wrS (i := i) (by omega)]
     rw [au (Dq hN hb.2.1.1 _), decide_eq_true h2, decide_eq_true h3]
     simp only [cond_true]
     change (bif decide (IntKind.i64.wrap ((dh b p.1.2.2.2.1[i].1).2.2.1 + p.1.2.2.2.1[i].2.2) > (dh b p.1.2.2.2.1[i].1).2.2.2.1) then _ else _) = _
     simp only [show b.2.1.getD (atB b p.1.2.2.2.1[i].1).toNat aJ = dh b p.1.2.2.2.1[i].1 from rfl]
     generalize dh b p.1.2.2.2.1[i].1 = s at hmem hmost ⊢
     generalize p.1.2.2.2.1[i] = u
     simp only [au (qR hN (hb.2.1.2 s hmem).2.1 hp.1.1), au (qR hN hp.1.1 (hb.2.1.2 s hmem).2.1), bne]
     have e1 : (s.2.2.2.1 == 0) = !decide (s.2.2.2.1 > 0) := by
      by_cases h : s.2.2.2.1 = 0
      ·rw [h]; rfl
      ·rw [decide_eq_true (by omega)]
       exact beq_eq_false_iff_ne.2 h
     have e2 : decide (IntKind.i64.wrap (s.2.2.1 + u.2.2) > s.2.2.2.1) = !decide (IntKind.i64.wrap (s.2.2.1 + u.2.2) ≤ s.2.2.2.1) := by
      by_cases h : IntKind.i64.wrap (s.2.2.1 + u.2.2) ≤ s.2.2.2.1
      ·rw [decide_eq_true h, decide_eq_false (by omega)]; rfl
      ·rw [decide_eq_false h, decide_eq_true (by omega)]; rfl
     rw [e1, e2]
     unfold rZ
     generalize (p.1.2.1 == 2) = x0
     generalize decide (s.2.2.2.1 > 0) = x1
     generalize (p.1.2.1 == 1) = x2
     generalize (u.2.1 == 2) = x3
     generalize (u.2.1 == 1) = x4
     generalize (s.2.2.2.2.all fun x => p.1.2.2.1.contains x) = x5
     generalize (p.1.2.2.1.all fun x => s.2.2.2.2.contains x) = x6
     generalize decide (IntKind.i64.wrap (s.2.2.1 + u.2.2) ≤ s.2.2.2.1) = x7
     generalize g ((i + 1 : Nat) : Int) = gg
     cases x7 <;> cases x0 <;> cases x1 <;> cases x2 <;> cases x3 <;> cases x4 <;> cases x5 <;> cases x6 <;> rfl
    ·unfold P_
     rw [d_]; rfl
    ·rw [fU]
     cases p.1.2.2.2.1.all fun u => rZ (dh b u.1) p.1 u <;> rfl
end Go.MC
namespace Go.MC
open Go.MC.F
def jT (b : af) (s : bi) : Bool := nP s.1 && (inB s.2.1 0 1000 && (inB s.2.2.1 0 s.2.2.2.1 && (!decide (s.2.2.2.1 > s.2.1) && (fM s.2.2.2.2 8 && !ik b s.2.2.2.2 s.2.2.2.2))))
def l_ (b : af) (i : Nat) (s : bi) : Bool := jT b s && (i == 0 || Op.bytesLess (b.2.1.getD (i - 1) aJ).1 s.1)
def vk (b : af) : Bool := !decide ((b.2.1.length : Int) > 8) && iV (l_ b) 0 b.2.1
theorem aqK {N : Nat} (hN : lim < N) {b : af} {s : bi} (hb : b.1.length ≤ 1048576) (hs : smS s) : alz N b s = some (jT b s) := by
 have hlim := aY
 have h1 := hs.2.1
 unfold alz amL jT
 rw [au (y7 hN _)]
 simp only [au (UM s.2.1 0 1000), au (UM s.2.2.1 0 s.2.2.2.1), au (uo hN (show s.2.2.2.2.length ≤ lim by omega) 8)]
 have loop : YG N b s N 0 = some (!ik b s.2.2.2.2 s.2.2.2.2) := by
  refine (dQ s.2.2.2.2 _ (fun _ x => !(s.2.2.2.2.any fun v => ry b x v)) (some false) (some true) (fun g i hi => ?_) (fun g => ?_) N (by omega)).trans ?_
  ·unfold Qs
   simp only [dlt hi, dge, gAt hi, cond_true, wrS (i := i) (by omega)]
   rw [au (afP hN hb _ h1)]
   cases s.2.2.2.2.any fun v => ry b s.2.2.2.2[i] v <;> rfl
  ·unfold Qs
   rw [d_]; rfl
  ·rw [fU, not_any, ab3]
   cases s.2.2.2.2.any fun u => s.2.2.2.2.any fun v => ry b u v <;> rfl
 rw [loop]
 cases nP s.1 <;> cases inB s.2.1 0 1000 <;> cases inB s.2.2.1 0 s.2.2.2.1 <;> cases decide (s.2.2.2.1 > s.2.1) <;> cases fM s.2.2.2.2 8 <;> rfl
def iO (a b : aK) : Bool := a.2.2.2.1.any fun u => b.2.2.2.1.any fun v => u.1 == v.1
def iZ (a b : aK) : Bool := (a.2.2.2.2.1.any fun x => b.2.2.2.2.1.contains x) || ((a.2.2.2.2.1.any fun x => b.2.2.2.2.2.contains x) || (a.2.2.2.2.2.any fun x => b.2.2.2.2.1.contains x))
theorem awo {α β : Type} {l : List α} {rd : (Int → List β → Option (List β)) → Int → List β → Option (List β)} (f : α → β)
 (hstep : ∀ (g : Int → List β → Option (List β)) (i : Nat) (out : List β) (h : i < l.length), out.length ≤ i → rd g (i : Int) out = g ((i + 1 : Nat) : Int) (out ++ [f l[i]]))
 (hend : ∀ (g : Int → List β → Option (List β)) (out : List β), rd g (l.length : Int) out = some out) {N : Nat} (hN : l.length < N) : lp (fun _ _ => none) rd N 0 [] = some (l.map f) := by
 have := iT l (fun (g : Int → List β → Option (List β)) i (d : List β) => g (i : Int) d) (fun _ _ => none) rd (fun i d x => .inl (d ++ [f x])) (fun d => some d) (fun i d => d.length ≤ i)
  (fun g i st h hi => ⟨hstep g i st h hi, fun st' hs => by cases hs; simp; omega⟩) (fun g d hd => hend g d) N hN [] (by simp)
 refine this.trans ?_
 have : ∀ (l : List α) i (d : List β), mP (fun d => some d) (gJ (fun i (d : List β) x => (Sum.inl (d ++ [f x]) : List β ⊕ Option (List β))) i l d) = some (d ++ l.map f) := by
  intro l
  induction l with
  | nil => intro i d; simp [gJ, mP]
  | cons x xs ih =>
   intro i d
   simp only [gJ]
   rw [ih (i + 1) (d ++ [f x])]
   simp
 rw [this l 0 []]; rfl
theorem ZJ {N : Nat} (hN : lim < N) {w : aK} (hw : smW w) : G6 N w = some (w.2.2.2.1.map (·.1)) := by
 have hlim := aY
 have h1 := hw.2.1.1
 unfold G6 acN
 refine awo (l := w.2.2.2.1) (fun u : Use => u.1) (fun g i out hi ho => ?_) (fun g out => ?_) (by omega)
 ·unfold Fa
  simp only [dlt hi, dge, gAt hi, cond_true, wrS (i := i) (by omega)]
  have : decide ((out.length + [w.2.2.2.1[i].1].length) * 16 ≤ lim) = true := decide_eq_true (by simp; omega)
  simp only [this, cond_true]
 ·unfold Fa
  rw [d_]; rfl
theorem anj (a b : aK) : ((a.2.2.2.1.map (·.1)).any fun x => (b.2.2.2.1.map (·.1)).contains x) = iO a b := by
 unfold iO
 rw [List.any_map]
 congr 1
 funext u
 simp only [Function.comp, List.contains_eq_any_beq, List.any_map]
 rfl
theorem agJ {N : Nat} (hN : lim < N) {a b : aK} (ha : smW a) (hb : smW b) : QO N (a.2.2.2.1.map (·.1)) (b.2.2.2.1.map (·.1)) = some (iO a b) := by
 have hlim := aY
 have h1 := ha.2.1.1
 have h2 := hb.2.1.1
 rw [JB hN (by simp; omega) (by simp; omega), anj]
theorem Wi {N : Nat} (hN : lim < N) {a b : aK} (ha : smW a) (hb : smW b) : aeJ N a b = some (iZ a b) := by
 have hlim := aY
 have h1 : a.2.2.2.2.1.length ≤ 1048576 := ha.2.2.1.1
 have h2 : a.2.2.2.2.2.length ≤ 1048576 := ha.2.2.2.1
 have h3 : b.2.2.2.2.1.length ≤ 1048576 := hb.2.2.1.1
 have h4 : b.2.2.2.2.2.length ≤ 1048576 := hb.2.2.2.1
 unfold aeJ iZ
 rw [au (JB hN (show a.2.2.2.2.1.length ≤ lim by omega) (show b.2.2.2.2.1.length ≤ lim by omega))]
 simp only [au (JB hN (show a.2.2.2.2.1.length ≤ lim by omega) (show b.2.2.2.2.2.length ≤ lim by omega)), au (JB hN (show a.2.2.2.2.2.length ≤ lim by omega) (show b.2.2.2.2.1.length ≤ lim by omega))]
 cases (a.2.2.2.2.1.any fun x => b.2.2.2.2.1.contains x) <;> cases (a.2.2.2.2.1.any fun x => b.2.2.2.2.2.contains x) <;> rfl
theorem Vo {N : Nat} (hN : lim < N) {a b : aK} (ha : smW a) (hb : smW b) : SI N a b = some (iZ a b) := by
 have hlim := aY
 have h1 : a.2.2.2.2.1.length ≤ 1048576 := ha.2.2.1.1
 have h2 : a.2.2.2.2.2.length ≤ 1048576 := ha.2.2.2.1
 have h3 : b.2.2.2.2.1.length ≤ 1048576 := hb.2.2.1.1
 have h4 : b.2.2.2.2.2.length ≤ 1048576 := hb.2.2.2.1
 unfold SI iZ
 rw [au (wz hN (show a.2.2.2.2.1.length ≤ lim by omega) (show b.2.2.2.2.1.length ≤ lim by omega))]
 simp only [au (wz hN (show a.2.2.2.2.1.length ≤ lim by omega) (show b.2.2.2.2.2.length ≤ lim by omega)), au (wz hN (show a.2.2.2.2.2.length ≤ lim by omega) (show b.2.2.2.2.1.length ≤ lim by omega))]
 cases (a.2.2.2.2.1.any fun x => b.2.2.2.2.1.contains x) <;> cases (a.2.2.2.2.1.any fun x => b.2.2.2.2.2.contains x) <;> rfl
theorem WW {N : Nat} (hN : lim < N) {a b : aK} (ha : smW a) (hb : smW b) : SE N a b = some (iO a b) := by
 have hlim := aY
 have h1 := ha.2.1.1
 have h2 := hb.2.1.1
 have inner : ∀ u : Use, ah5 N u b = some (b.2.2.2.1.any fun v => u.1 == v.1, b) := by
  intro u
  unfold ah5 f_4
  have h : f_8 N b.2.2.2.1 u = some (jo (fun v : Use => u.1 == v.1) 0 b.2.2.2.1, u) := by
   unfold f_8 axr
   have := iT b.2.2.2.1 (fun (g : Int → Txt → Int → Int → Option (Int × Use)) i (d : Use) => g (i : Int) d.1 d.2.1 d.2.2) (fun _ _ _ _ => none) (Q8 N b.2.2.2.1 (b.2.2.2.1.length : Int)) (fun i d x => bif u.1 == x.1 then .inr (some ((i : Int), d)) else .inl d) (fun d => some (-1, d)) (fun _ d => d = u)
    (fun g i st h hi => ⟨by
     subst hi
     unfold Q8
     simp only [dlt h, dge, gAt h, cond_true, wrS (i := i) (by omega)]
     rw [au (show auV N b.2.2.2.1[i] (st.1, st.2.1, st.2.2) = some (st.1 == b.2.2.2.1[i].1, st) from rfl)]
     cases st.1 == b.2.2.2.1[i].1 <;> rfl, fun st' hs => by
     subst hi
     cases hp : st.1 == b.2.2.2.1[i].1 with
     | true => rw [hp] at hs; cases hs
     | false => rw [hp] at hs; cases hs; rfl⟩) (fun g d hd => by
     subst hd
     unfold Q8
     rw [d_]; rfl) N (by omega) u rfl
   refine this.trans ?_
   have : ∀ (l : List Use) i, mP (fun d => some (-1, d)) (gJ (fun i (d : Use) (x : Use) => bif u.1 == x.1 then Sum.inr (some ((i : Int), d)) else Sum.inl d) i l u) = some (jo (fun v : Use => u.1 == v.1) i l, u) := by
    intro l
    induction l with
    | nil => intro i; rfl
    | cons x xs ih =>
     intro i
     simp only [gJ, jo]
     cases u.1 == x.1 with
     | false => simpa using ih (i + 1)
     | true => rfl
   exact this b.2.2.2.1 0
  rw [au (a := (b.2.2.2.1.any fun v => u.1 == v.1, u)) (by rw [au h, ja])]
 unfold SE f_7 iO
 have h : ano N a.2.2.2.1 b = some (jo (fun u : Use => b.2.2.2.1.any fun v => u.1 == v.1) 0 a.2.2.2.1, b) := by
  unfold ano aly
  have := iT a.2.2.2.1 (fun (g : Int → Int → Int → List Txt → List Use → List Txt → List Txt → Option (Int × aK)) i (d : aK) => g (i : Int) d.1 d.2.1 d.2.2.1 d.2.2.2.1 d.2.2.2.2.1 d.2.2.2.2.2) (fun _ _ _ _ _ _ _ => none) (F9 N a.2.2.2.1 (a.2.2.2.1.length : Int)) (fun i d x => bif b.2.2.2.1.any (fun v => x.1 == v.1) then .inr (some ((i : Int), d)) else .inl d) (fun d => some (-1, d)) (fun _ d => d = b)
   (fun g i st h hi => ⟨by
    subst hi
    unfold F9
    simp only [dlt h, dge, gAt h, cond_true, wrS (i := i) (by omega)]
    rw [au (show ah5 N a.2.2.2.1[i] (st.1, st.2.1, st.2.2.1, st.2.2.2.1, st.2.2.2.2.1, st.2.2.2.2.2) = some (st.2.2.2.1.any fun v => a.2.2.2.1[i].1 == v.1, st) from inner _)]
    cases st.2.2.2.1.any fun v => a.2.2.2.1[i].1 == v.1 <;> rfl, fun st' hs => by
    subst hi
    cases hp : st.2.2.2.1.any (fun v => a.2.2.2.1[i].1 == v.1) with
    | true => rw [hp] at hs; cases hs
    | false => rw [hp] at hs; cases hs; rfl⟩) (fun g d hd => by
    subst hd
    unfold F9
    rw [d_]; rfl) N (by omega) b rfl
  refine this.trans ?_
  have : ∀ (l : List Use) i, mP (fun d => some (-1, d)) (gJ (fun i (d : aK) (x : Use) => bif b.2.2.2.1.any (fun v => x.1 == v.1) then Sum.inr (some ((i : Int), d)) else Sum.inl d) i l b) = some (jo (fun u : Use => b.2.2.2.1.any fun v => u.1 == v.1) i l, b) := by
   intro l
   induction l with
   | nil => intro i; rfl
   | cons x xs ih =>
    intro i
    simp only [gJ, jo]
    cases b.2.2.2.1.any fun v => x.1 == v.1 with
    | false => simpa using ih (i + 1)
    | true => rfl
  exact this a.2.2.2.1 0
 rw [au (a := (a.2.2.2.1.any fun u => b.2.2.2.1.any fun v => u.1 == v.1, b)) (by rw [au h, ja])]
def og (b : af) (i : Nat) (p : dm) : Bool := qy b p && ((i == 0 || !decide ((b.2.2.2.1.getD (i - 1) bU).1.1 ≥ p.1.1)) && (b.2.2.2.1.take i).all fun q => !iO p.1 q.1 && !iZ p.1 q.1)
def nV (b : af) : Bool := !decide ((b.2.2.2.1.length : Int) > 6) && iV (og b) 0 b.2.2.2.1
def bf (b : af) : Bool := oZ b && (fM b.2.2.1 12 && (inB b.2.2.2.2 0 1000000 && (vk b && nV b)))
theorem amI {α : Type} {l : List α} {i k : Nat} (hk : k < (l.take i).length) : l[k]'(by simp at hk; omega) = (l.take i)[k] := by simp
theorem aiO {N : Nat} (hN : lim < N) {b : af} (hb : smB b) : ap1 N b = some (nV b) := by
 have hlim := aY
 have hlb := hb.2.2.2.1
 unfold ap1 apl nV
 cases hlen : decide ((b.2.2.2.1.length : Int) > 6) with
 | true => rfl
 | false =>
  refine (dQ b.2.2.2.1 _ (og b) (some false) (some true) (fun g i hi => ?_) (fun g => ?_) N (by omega)).trans ?_
  ·have hp := hb.2.2.2.2 _ (List.getElem_mem hi)
   have inner : Uw N g b (i : Int) b.2.2.2.1[i].1.1 b.2.2.2.1[i].1.2.1 b.2.2.2.1[i].1.2.2.1 b.2.2.2.1[i].1.2.2.2.1 b.2.2.2.1[i].1.2.2.2.2.1 b.2.2.2.1[i].1.2.2.2.2.2 N 0 =
    bif (b.2.2.2.1.take i).all (fun q => !iO b.2.2.2.1[i].1 q.1 && !iZ b.2.2.2.1[i].1 q.1) then g ((i + 1 : Nat) : Int) else some false := by
    have hl : (b.2.2.2.1.take i).length = i := by simp; omega
    refine (dQ (b.2.2.2.1.take i) _ (fun _ q => !iO b.2.2.2.1[i].1 q.1 && !iZ b.2.2.2.1[i].1 q.1) (some false) (g ((i + 1 : Nat) : Int)) (fun g2 k hk => ?_) (fun g2 => ?_) N (by omega)).trans ?_
    ·have hk' : k < b.2.2.2.1.length := by simp at hk; omega
     have hq := hb.2.2.2.2 _ (List.getElem_mem hk')
     have hki : k < i := by omega
     unfold P9
     simp only [dlt hki, dlt hk', dge, gAt hk', cond_true, wrS (i := k) (by omega)]
     rw [au (show G6 N (b.2.2.2.1[i].1.1, b.2.2.2.1[i].1.2.1, b.2.2.2.1[i].1.2.2.1, b.2.2.2.1[i].1.2.2.2.1, b.2.2.2.1[i].1.2.2.2.2.1, b.2.2.2.1[i].1.2.2.2.2.2) = _ from ZJ hN hp), au (ZJ hN hq), au (agJ hN hp hq)]
     rw [← amI hk]
     cases iO b.2.2.2.1[i].1 b.2.2.2.1[k].1 with
     | true => rfl
     | false =>
      simp only [cond_false]
      rw [au (show aeJ N (b.2.2.2.1[i].1.1, b.2.2.2.1[i].1.2.1, b.2.2.2.1[i].1.2.2.1, b.2.2.2.1[i].1.2.2.2.1, b.2.2.2.1[i].1.2.2.2.2.1, b.2.2.2.1[i].1.2.2.2.2.2) b.2.2.2.1[k].1 = _ from Wi hN hp hq)]
      cases iZ b.2.2.2.1[i].1 b.2.2.2.1[k].1 <;> rfl
    ·unfold P9
     rw [hl, d_, cond_false, wrS (by omega)]
    ·rw [fU]
   unfold Qv og
   simp only [dlt hi, dge, gAt hi, cond_true, wrS (i := i) (by omega), UJ]
   rw [au (amV hN hb hp)]
   cases qy b b.2.2.2.1[i] with
   | false => rfl
   | true =>
    cases h0 : i == 0 with
    | true =>
     simp only [Bool.not_true, cond_false, Bool.true_or, Bool.true_and]
     exact inner
    | false =>
     have h0' : 0 < i := by simp at h0; omega
     simp only [Bool.not_true, Bool.not_false, cond_true, cond_false, wrP (show i ≤ 1000000000000000000 by omega) h0', dge, dlt (show i - 1 < b.2.2.2.1.length by omega), xX, Bool.false_or, Bool.true_and]
     cases decide ((b.2.2.2.1.getD (i - 1) bU).1.1 ≥ b.2.2.2.1[i].1.1) with
     | true => rfl
     | false => exact inner
  ·unfold Qv
   rw [d_]; rfl
  ·cases iV (og b) 0 b.2.2.2.1 <;> rfl
theorem nJ {N : Nat} (hN : lim < N) {b : af} (hb : smB b) : UY N b = some (bf b) := by
 have hlim := aY
 have hls := hb.2.1.1
 have hlv : b.2.2.1.length ≤ 1048576 := hb.2.2.1.1
 unfold UY anE bf vk
 rw [au (aoX hN b)]
 simp only [au (uo hN (show b.2.2.1.length ≤ lim by omega) 12), au (UM b.2.2.2.2 0 1000000)]
 have loop : Zi N b N 0 = some (iV (l_ b) 0 b.2.1 && nV b) := by
  refine (dQ b.2.1 _ (l_ b) (some false) (some (nV b)) (fun g i hi => ?_) (fun g => ?_) N (by omega)).trans ?_
  ·unfold Qg l_
   simp only [dlt hi, dge, gAt hi, cond_true, wrS (i := i) (by omega), UJ]
   rw [au (aqK hN hb.1.1 (hb.2.1.2 _ (List.getElem_mem hi)))]
   cases jT b b.2.1[i] with
   | false => rfl
   | true =>
    cases h0 : i == 0 with
    | true => rfl
    | false =>
     have h0' : 0 < i := by simp at h0; omega
     simp only [Bool.not_true, Bool.not_false, cond_true, cond_false, wrP (show i ≤ 1000000000000000000 by omega) h0', dge, dlt (show i - 1 < b.2.1.length by omega), xX, Bool.false_or, Bool.true_and]
     cases Op.bytesLess (b.2.1.getD (i - 1) aJ).1 b.2.1[i].1 <;> rfl
  ·unfold Qg
   rw [d_, cond_false, au (aiO hN hb)]
  ·cases iV (l_ b) 0 b.2.1 <;> rfl
 rw [loop]
 cases oZ b <;> cases decide ((b.2.1.length : Int) > 8) <;> cases fM b.2.2.1 12 <;> cases inB b.2.2.2.2 0 1000000 <;> rfl
theorem U5 {b : af} (h : iV (l_ b) 0 b.2.1 = true) : ∀ s ∈ b.2.1, 0 ≤ s.2.2.2.1 := by
 intro s hs
 obtain ⟨i, hi⟩ := List.getElem?_of_mem hs
 have := gu.1 h i s hi
 simp only [l_, jT, inB, Bool.and_eq_true, decide_eq_true_eq] at this
 have := this.1.2.2.1
 omega
theorem nR {N : Nat} (hN : lim < N) {b : af} (hb : smB b) : UH N b = some (bf b) := by
 have hlim := aY
 have hlf := hb.1.1
 have hls := hb.2.1.1
 have hlv : b.2.2.1.length ≤ 1048576 := hb.2.2.1.1
 have hlp := hb.2.2.2.1
 unfold UH aqY bf oZ vk nV
 simp only [au (uY hN (show b.2.2.1.length ≤ lim by omega) 12), au (zi b.2.2.2.2 0 1000000)]
 have k4 : (∀ s ∈ b.2.1, 0 ≤ s.2.2.2.1) → JG N b (b.2.2.2.1.length : Int) N 0 = some (iV (og b) 0 b.2.2.2.1) := by
  intro hm
  refine (dQ b.2.2.2.1 _ (og b) (some false) (some true) (fun g i hi => ?_) (fun g => ?_) N (by omega)).trans ?_
  ·have hp := hb.2.2.2.2 _ (List.getElem_mem hi)
   have inner : ∀ c6, TY N g b (b.2.2.2.1.length : Int) (i : Int) (b.2.2.2.1.take i) ((b.2.2.2.1.take i).length : Int) b.2.2.2.1[i].1.1 b.2.2.2.1[i].1.2.1 b.2.2.2.1[i].1.2.2.1 b.2.2.2.1[i].1.2.2.2.1 b.2.2.2.1[i].1.2.2.2.2.1 b.2.2.2.1[i].1.2.2.2.2.2 c6 N 0 =
    bif (b.2.2.2.1.take i).all (fun q => !iO b.2.2.2.1[i].1 q.1 && !iZ b.2.2.2.1[i].1 q.1) then g ((i + 1 : Nat) : Int) else some false := by
    intro c6
    have hl : (b.2.2.2.1.take i).length = i := by simp; omega
    refine (dQ (b.2.2.2.1.take i) _ (fun _ q => !iO b.2.2.2.1[i].1 q.1 && !iZ b.2.2.2.1[i].1 q.1) (some false) (g ((i + 1 : Nat) : Int)) (fun g2 k hk => ?_) (fun g2 => ?_) N (by omega)).trans ?_
    ·have hk' : k < b.2.2.2.1.length := by simp at hk; omega
     have hq := hb.2.2.2.2 _ (List.mem_of_mem_take (List.getElem_mem hk))
     unfold OL
     simp only [dlt hk, dge, gAt hk, cond_true, wrS (i := k) (by omega)]
     rw [au (show SE N (b.2.2.2.1[i].1.1, b.2.2.2.1[i].1.2.1, b.2.2.2.1[i].1.2.2.1, b.2.2.2.1[i].1.2.2.2.1, b.2.2.2.1[i].1.2.2.2.2.1, b.2.2.2.1[i].1.2.2.2.2.2) (b.2.2.2.1.take i)[k].1 = _ from WW hN hp hq)]
     cases iO b.2.2.2.1[i].1 (b.2.2.2.1.take i)[k].1 with
     | true => rfl
     | false =>
      simp only [cond_false]
      rw [au (show SI N (b.2.2.2.1[i].1.1, b.2.2.2.1[i].1.2.1, b.2.2.2.1[i].1.2.2.1, b.2.2.2.1[i].1.2.2.2.1, b.2.2.2.1[i].1.2.2.2.2.1, b.2.2.2.1[i].1.2.2.2.2.2) (b.2.2.2.1.take i)[k].1 = _ from Vo hN hp hq)]
      cases iZ b.2.2.2.1[i].1 (b.2.2.2.1.take i)[k].1 <;> rfl
    ·unfold OL
     rw [d_, cond_false, wrS (by omega)]
    ·rw [fU]
   unfold O4 og
   simp only [dlt hi, dge, gAt hi, cond_true, wrS (i := i) (by omega), UJ]
   have hle : decide ((i : Int) ≤ (b.2.2.2.1.length : Int)) = true := decide_eq_true (by omega)
   have hz : Int.toNat (0 : Int) = 0 := rfl
   have hi' : Int.toNat (i : Int) = i := rfl
   cases h0 : i == 0 with
   | true =>
    simp only [Bool.not_true, cond_false, Bool.true_or, Bool.true_and]
    rw [au (Ry hN hb hp hm)]
    cases qy b b.2.2.2.1[i] with
    | false => rfl
    | true =>
     simp only [Bool.not_true, cond_false, hle, cond_true, hi', hz, List.drop_zero, Bool.true_and]
     exact inner _
   | false =>
    have h0' : 0 < i := by simp at h0; omega
    simp only [Bool.not_true, Bool.not_false, cond_true, cond_false, wrP (show i ≤ 1000000000000000000 by omega) h0', dge, dlt (show i - 1 < b.2.2.2.1.length by omega), xX, Bool.false_or, Bool.true_and]
    cases decide ((b.2.2.2.1.getD (i - 1) bU).1.1 ≥ b.2.2.2.1[i].1.1) with
    | true => simp
    | false =>
     rw [cond_false, au (Ry hN hb hp hm)]
     cases qy b b.2.2.2.1[i] with
     | false => rfl
     | true =>
      simp only [Bool.not_true, Bool.not_false, cond_false, hle, cond_true, hi', hz, List.drop_zero, Bool.true_and]
      exact inner _
  ·unfold O4
   rw [d_]; rfl
  ·cases iV (og b) 0 b.2.2.2.1 <;> rfl
 have k2 : JO N b (b.2.1.length : Int) N 0 = some (iV (l_ b) 0 b.2.1 && iV (og b) 0 b.2.2.2.1) := by
  refine (dQ b.2.1 _ (l_ b) (some false) (JG N b (b.2.2.2.1.length : Int) N 0) (fun g i hi => ?_) (fun g => ?_) N (by omega)).trans ?_
  ·have hs := hb.2.1.2 _ (List.getElem_mem hi)
   have h1 := hs.2.1
   unfold O0 l_ jT
   simp only [dlt hi, dge, gAt hi, cond_true, wrS (i := i) (by omega), UJ]
   rw [au (zV hN _)]
   have tail : (ob (mJ N b.2.1[i].2.1 0 1000) false fun r => bif !r then some false else bif decide (b.2.1[i].2.2.1 < 0) then some false else bif decide (b.2.1[i].2.2.1 > b.2.1[i].2.2.2.1) then some false else bif decide (b.2.1[i].2.2.2.1 > b.2.1[i].2.1) then some false else
    ob (yX N b.2.1[i].2.2.2.2 8) false fun r => bif !r then some false else ob (Yh N b b.2.1[i].2.2.2.2 b.2.1[i].2.2.2.2) false fun r => bif r then some false else g ((i + 1 : Nat) : Int)) =
    bif (inB b.2.1[i].2.1 0 1000 && (inB b.2.1[i].2.2.1 0 b.2.1[i].2.2.2.1 && (!decide (b.2.1[i].2.2.2.1 > b.2.1[i].2.1) && (fM b.2.1[i].2.2.2.2 8 && !ik b b.2.1[i].2.2.2.2 b.2.1[i].2.2.2.2)))) then g ((i + 1 : Nat) : Int) else some false := by
    simp only [au (zi b.2.1[i].2.1 0 1000), au (uY hN (show b.2.1[i].2.2.2.2.length ≤ lim by omega) 8), au (QX hN hlf h1 h1)]
    have e1 : inB b.2.1[i].2.2.1 0 b.2.1[i].2.2.2.1 = (!decide (b.2.1[i].2.2.1 < 0) && !decide (b.2.1[i].2.2.1 > b.2.1[i].2.2.2.1)) := by
     unfold inB
     congr 1
     ·by_cases h : b.2.1[i].2.2.1 < 0
      ·rw [decide_eq_true h, decide_eq_false (by omega)]; rfl
      ·rw [decide_eq_false h, decide_eq_true (by omega)]; rfl
     ·by_cases h : b.2.1[i].2.2.1 > b.2.1[i].2.2.2.1
      ·rw [decide_eq_true h, decide_eq_false (by omega)]; rfl
      ·rw [decide_eq_false h, decide_eq_true (by omega)]; rfl
    rw [e1]
    cases inB b.2.1[i].2.1 0 1000 <;> cases decide (b.2.1[i].2.2.1 < 0) <;> cases decide (b.2.1[i].2.2.1 > b.2.1[i].2.2.2.1) <;> cases decide (b.2.1[i].2.2.2.1 > b.2.1[i].2.1) <;> cases fM b.2.1[i].2.2.2.2 8 <;> cases ik b b.2.1[i].2.2.2.2 b.2.1[i].2.2.2.2 <;> rfl
   cases nP b.2.1[i].1 with
   | false => rfl
   | true =>
    cases h0 : i == 0 with
    | true =>
     simp only [Bool.not_true, cond_false, Bool.true_or, Bool.true_and, Bool.and_true]
     exact tail
    | false =>
     have h0' : 0 < i := by simp at h0; omega
     simp only [Bool.not_true, Bool.not_false, cond_true, cond_false, wrP (show i ≤ 1000000000000000000 by omega) h0', dge, dlt (show i - 1 < b.2.1.length by omega), xX, Bool.false_or, Bool.true_and]
     cases Op.bytesLess (b.2.1.getD (i - 1) aJ).1 b.2.1[i].1 with
     | false => simp
     | true =>
      simp only [Bool.not_true, cond_false, Bool.and_true]
      exact tail
  ·unfold O0
   rw [d_]; rfl
  ·cases hs : iV (l_ b) 0 b.2.1 with
   | false => rfl
   | true => rw [cond_true, k4 (U5 hs)]; rfl
 have k0 : YF N b (b.1.length : Int) N 0 = some (iV (uj b) 0 b.1 && (iV (l_ b) 0 b.2.1 && iV (og b) 0 b.2.2.2.1)) := by
  refine (dQ b.1 _ (uj b) (some false) (JO N b (b.2.1.length : Int) N 0) (fun g i hi => ?_) (fun g => ?_) N (by omega)).trans ?_
  ·unfold OI uj
   simp only [dlt hi, dge, gAt hi, cond_true, wrS (i := i) (by omega), UJ]
   rw [au (zV hN _)]
   simp only [au (zV hN b.1[i].2)]
   cases nP b.1[i].1 with
   | false => rfl
   | true =>
    cases nP b.1[i].2 with
    | false => rfl
    | true =>
     cases Op.bytesLess b.1[i].1 b.1[i].2 with
     | false => rfl
     | true =>
      cases h0 : i == 0 with
      | true => rfl
      | false =>
       have h0' : 0 < i := by simp at h0; omega
       simp only [Bool.not_true, Bool.not_false, cond_true, cond_false, wrP (show i ≤ 1000000000000000000 by omega) h0', dge, dlt (show i - 1 < b.1.length by omega), xX, Bool.false_or, Bool.true_and]
       rw [au (aio _ _)]
       cases RN (b.1.getD (i - 1) jd) b.1[i] <;> rfl
  ·unfold OI
   rw [d_]; rfl
  ·rw [k2]
   cases iV (uj b) 0 b.1 <;> rfl
 rw [k0]
 generalize decide ((b.1.length : Int) > 12) = x0
 generalize decide ((b.2.1.length : Int) > 8) = x1
 generalize decide ((b.2.2.2.1.length : Int) > 6) = x2
 generalize fM b.2.2.1 12 = x3
 generalize inB b.2.2.2.2 0 1000000 = x4
 generalize iV (uj b) 0 b.1 = x5
 generalize iV (l_ b) 0 b.2.1 = x6
 generalize iV (og b) 0 b.2.2.2.1 = x7
 revert x0 x1 x2 x3 x4 x5 x6 x7
 decide +kernel
theorem Bl {α ρ : Type} (l : List α) (rd : (Int → Option ρ) → Int → Option ρ) (p : α → Bool) (f : α → ρ) (z : ρ)
 (hstep : ∀ (g : Int → Option ρ) (i : Nat) (h : i < l.length), rd g (i : Int) = bif p l[i] then some (f l[i]) else g ((i + 1 : Nat) : Int))
 (hend : ∀ (g : Int → Option ρ), rd g (l.length : Int) = some z) (N : Nat) (hN : l.length < N) : lp (fun _ => none) rd N 0 = some (((l.find? p).map f).getD z) := by
 have := iT l (fun (g : Int → Option ρ) i (_ : Unit) => g (i : Int)) (fun _ => none) rd (fun i _ x => bif p x then .inr (some (f x)) else .inl ()) (fun _ => some z) (fun _ _ => True)
  (fun g i st h _ => ⟨by
   rw [hstep g i h]
   cases p l[i] <;> rfl, fun _ _ => trivial⟩) (fun g _ _ => hend g) N hN () trivial
 refine this.trans ?_
 have : ∀ (l : List α) i, mP (fun _ => some z) (gJ (fun i (_ : Unit) x => bif p x then Sum.inr (some (f x)) else Sum.inl ()) i l ()) = some (((l.find? p).map f).getD z) := by
  intro l
  induction l with
  | nil => intro i; rfl
  | cons x xs ih =>
   intro i
   simp only [gJ, List.find?_cons]
   cases p x with
   | false => simpa using ih (i + 1)
   | true => rfl
 exact this l 0
end Go.MC
namespace Go.MC
open Go.MC.F
theorem ab5 {N : Nat} {c : Int} {r : Rdr} (hr : rdG c r) (hc : c ≤ 1000000000000) {l : List Txt} (hl : 1 ≤ l.length) : dL (BG N r l) fun q => q.1 ∈ l ∧ rdG (c + 1) q.2 := by
 unfold BG
 refine (fK hr hc (n := (l.length : Int)) (by omega)).ob fun k h => gIf h.1 (gIf h.2.1 (.some ⟨j_ (by omega) _, h.2.2⟩))
theorem auO {N : Nat} {c : Int} {r : Rdr} (hr : rdG c r) (hc : c ≤ 999999999000) (b : af) : dL (zZ N r b) fun q => rdG (c + 2) q.2 := by
 have last : ∀ {c' : Int} {r' : Rdr}, rdG c' r' → c' ≤ c + 1 → dL (ob (gK N r' 4) (Int.ofNat 0, [], Int.ofNat 0) fun q => bif decide (0 ≤ q.1) then (bif decide (q.1 < (([0, -1, b.2.2.2.2, IntKind.i64.wrap (b.2.2.2.2 + 1)].length : Nat) : Int)) then some ([0, -1, b.2.2.2.2, IntKind.i64.wrap (b.2.2.2.2 + 1)].getD q.1.toNat (Int.ofNat 0), q.2) else none) else none) fun q => rdG (c + 2) q.2 := fun {c' r'} h hc' =>
  (fK h (by omega) (by omega)).ob fun q hq => gIf hq.1 (gIf (by simp only [List.length_cons, List.length_nil]; omega) (.some (hq.2.2.mono (by omega))))
 unfold zZ Ze
 refine rf (fun h => ?_) fun _ => last hr (by omega)
 refine (fK hr (by omega) (by omega)).ob fun k hk => rf (fun _ => ?_) fun _ => last hk.2.2 (by omega)
 exact (fK hk.2.2 (by omega) (show (1 : Int) ≤ (b.2.2.2.1.length : Int) by omega)).ob fun j hj => gIf hj.1 (gIf hj.2.1 (.some (hj.2.2.mono (by omega))))
theorem ant {N : Nat} (hN : lim < N) {c : Int} {r : Rdr} (hr : rdG c r) (hc : c ≤ 999999990000) {list : List Txt} (hl : list.length ≤ 1000) (most : Int) :
 dL (aa0 N r list most) fun q => rdG (c + list.length) q.2 ∧ q.1.Sublist list := by
 have hlim := aY
 refine jU list.length (fun (g : Int → List Int → Int → List Txt → Option (List Txt × Rdr)) i (st : Rdr × List Txt) => g i st.1.1 st.1.2 st.2) (z := fun _ _ _ _ => none) (rd := fun next => y9 N list most next) (fun i st => rdG (c + i) st.1 ∧ st.2.Sublist (list.take i))
  (fun g i st hi hv on => ?_) (fun g st hv => ?_) (N := N) (st := (r, [])) (by omega) ⟨hr.mono (by omega), by simp⟩
 ·have hln := hv.2.length_le
  rw [List.length_take] at hln
  unfold y9
  simp only [wrS (i := i) (by omega), gAt hi]
  refine gIf (by omega) (rf (fun _ => (fK hv.1 (by omega) (by omega)).ob fun k hk => gBy (fun _ => gIf (by omega) (gIf (by omega) (gIf (by omega) (on (k.2, _) ⟨hk.2.2.mono (by omega), Yt hi hv.2⟩)))) fun _ => on (k.2, st.2) ⟨hk.2.2.mono (by omega), Ui hi hv.2⟩)
   fun _ => .some ⟨hv.1.mono (by omega), hv.2.trans (List.take_sublist _ _)⟩)
 ·unfold y9
  refine yS (by omega) (.some ⟨hv.1, hv.2.trans (List.take_sublist _ _)⟩)
end Go.MC
namespace Go.MC
open Go.MC.F
theorem LQ {N : Nat} {s : List Txt} (h : s.length ≤ 1048576) : U3 N s = some s := by
 have hlim := aY
 have h1 : decide ((0 + s.length) * 16 ≤ lim) = true := decide_eq_true (by omega)
 unfold U3
 cases s with
 | nil => exact Me _
 | cons x xs =>
  rw [h1]
  rfl
theorem axc {N : Nat} {s : List Use} (h : s.length ≤ 1048576) : apk N s = some s := by
 have hlim := aY
 have h1 : decide ((0 + s.length) * 32 ≤ lim) = true := decide_eq_true (by omega)
 unfold apk
 cases s with
 | nil => exact Me _
 | cons x xs =>
  rw [h1]
  rfl
theorem ax6 {N : Nat} {s : List Foe} (h : s.length ≤ 1048576) : anD N s = some s := by
 have hlim := aY
 have h1 : decide ((0 + s.length) * 32 ≤ lim) = true := decide_eq_true (by omega)
 unfold anD
 cases s with
 | nil => exact Me _
 | cons x xs =>
  rw [h1]
  rfl
theorem EH {N : Nat} {s : List Txt} (h : s.length ≤ 1048576) : X5 N s = some s := by
 have hlim := aY
 have h1 : decide ((0 + s.length) * 16 ≤ lim) = true := decide_eq_true (by omega)
 unfold X5
 rw [h1]; rfl
theorem Ll {N : Nat} {w : aK} (h : smW w) : abf N w = some w := by
 have hlim := aY
 have h2 := h.2.1.1
 have h1 : decide ((0 + List.length w.2.2.2.1) * 32 ≤ lim) = true := decide_eq_true (by omega)
 unfold abf
 rw [h1, cond_true, au (EH h.1.1), au (EH h.2.2.1.1), au (EH h.2.2.2.1)]
 rfl
theorem GX {N : Nat} {w : aK} (h : smW w) : ac5 N w = some w := by
 unfold ac5
 rw [au (LQ h.1.1), au (axc h.2.1.1), au (LQ h.2.2.1.1), au (LQ h.2.2.2.1)]
theorem OC {α ρ : Type} {l : List α} {rd : (Int → List α → Option ρ) → Int → List α → Option ρ} (fin : List α → Option ρ)
 (hstep : ∀ (g : Int → List α → Option ρ) (i : Nat) (out : List α) (h : i < l.length), out.length ≤ i → rd g (i : Int) out = g ((i + 1 : Nat) : Int) (out ++ [l[i]]))
 (hend : ∀ (g : Int → List α → Option ρ) (out : List α), rd g (l.length : Int) out = fin out) {N : Nat} (hN : l.length < N) : lp (fun _ _ => none) rd N 0 [] = fin l := by
 have := iT l (fun (g : Int → List α → Option ρ) i (d : List α) => g (i : Int) d) (fun _ _ => none) rd (fun i d x => .inl (d ++ [x])) fin (fun i d => d.length ≤ i)
  (fun g i st h hi => ⟨hstep g i st h hi, fun st' hs => by cases hs; simp; omega⟩) (fun g d hd => hend g d) N hN [] (by simp)
 refine this.trans ?_
 have : ∀ (l : List α) i (d : List α), mP fin (gJ (fun i (d : List α) x => (Sum.inl (d ++ [x]) : List α ⊕ Option ρ)) i l d) = fin (d ++ l) := by
  intro l
  induction l with
  | nil => intro i d; simp [gJ, mP]
  | cons x xs ih =>
   intro i d
   simp only [gJ]
   rw [ih (i + 1) (d ++ [x])]
   simp
 rw [this l 0 []]; rfl
theorem vK {N : Nat} (hN : lim < N) {b : af} (hb : smB b) : F7 N b = some b := by
 have hlim := aY
 have h1 := hb.1.1
 have h2 := hb.2.1.1
 have h3 := hb.2.2.2.1
 have hg : decide ((0 + List.length b.1) * 32 ≤ lim) = true := decide_eq_true (by omega)
 unfold F7 aoP
 rw [hg, cond_true, au (EH hb.2.2.1.1)]
 refine (OC (l := b.2.1) (fun x => TR N b b.2.2.1 0 ([] ++ b.1) x N 0 []) (fun g i out hi ho => ?_) (fun g out => ?_) (by omega)).trans ?_
 ·have hm : b.2.1[i].2.2.2.2.length ≤ 1048576 := (hb.2.1.2 _ (List.getElem_mem hi)).2.1
  unfold PY
  simp only [dlt hi, dge, gAt hi, cond_true, wrS (i := i) (by omega), au (EH (N := N) hm)]
  have hg : decide ((out.length + [(b.2.1[i].1, b.2.1[i].2.1, b.2.1[i].2.2.1, b.2.1[i].2.2.2.1, b.2.1[i].2.2.2.2)].length) * 64 ≤ lim) = true := decide_eq_true (by simp only [List.length_cons, List.length_nil]; omega)
  rw [hg, cond_true]
 ·unfold PY
  rw [d_]; rfl
 ·refine (OC (l := b.2.2.2.1) (fun x => some (b.1, b.2.1, b.2.2.1, x, b.2.2.2.2)) (fun g i out hi ho => ?_) (fun g out => ?_) (by omega)).trans rfl
  ·have hp : smW b.2.2.2.1[i].1 := hb.2.2.2.2 _ (List.getElem_mem hi)
   unfold OB
   simp only [dlt hi, dge, gAt hi, cond_true, wrS (i := i) (by omega), au (Ll (N := N) hp)]
   have hg : decide ((out.length + [(b.2.2.2.1[i].1, b.2.2.2.1[i].2)].length) * 120 ≤ lim) = true := decide_eq_true (by simp only [List.length_cons, List.length_nil]; omega)
   rw [hg, cond_true]
  ·unfold OB
   rw [d_]; rfl
theorem EK {N : Nat} (hN : lim < N) {b : af} (hb : smB b) : abZ N b = some b := by
 have hlim := aY
 have h1 := hb.1.1
 have h2 := hb.2.1.1
 have h3 := hb.2.2.2.1
 unfold abZ ak4
 rw [au (ax6 hb.1.1), au (LQ hb.2.2.1.1)]
 refine (OC (l := b.2.1) (fun x => QS N b b.1 b.2.2.1 0 x (b.2.2.2.1.length : Int) N 0 []) (fun g i out hi ho => ?_) (fun g out => ?_) (by omega)).trans ?_
 ·have hm : b.2.1[i].2.2.2.2.length ≤ 1048576 := (hb.2.1.2 _ (List.getElem_mem hi)).2.1
  unfold OJ
  simp only [dlt hi, dge, gAt hi, cond_true, wrS (i := i) (by omega), au (LQ (N := N) hm)]
  have hg : decide ((out.length + [(b.2.1[i].1, b.2.1[i].2.1, b.2.1[i].2.2.1, b.2.1[i].2.2.2.1, b.2.1[i].2.2.2.2)].length) * 64 ≤ lim) = true := decide_eq_true (by simp only [List.length_cons, List.length_nil]; omega)
  rw [hg, cond_true]
 ·unfold OJ
  rw [d_]; rfl
 ·refine (OC (l := b.2.2.2.1) (fun x => some (b.1, b.2.1, b.2.2.1, x, b.2.2.2.2)) (fun g i out hi ho => ?_) (fun g out => ?_) (by omega)).trans rfl
  ·have hp : smW b.2.2.2.1[i].1 := hb.2.2.2.2 _ (List.getElem_mem hi)
   unfold Ql
   simp only [dlt hi, dge, gAt hi, cond_true, wrS (i := i) (by omega), au (GX (N := N) hp)]
   have hg : decide ((out.length + [(b.2.2.2.1[i].1, b.2.2.2.1[i].2)].length) * 120 ≤ lim) = true := decide_eq_true (by simp only [List.length_cons, List.length_nil]; omega)
   rw [hg, cond_true]
  ·unfold Ql
   rw [d_]; rfl
end Go.MC
namespace Go.MC
open Go.MC.F
theorem abl {N : Nat} {a b : List Txt} (ha : a.length ≤ 1048576) (hb : b.length ≤ 1048576) : FT N a b = some (kz (srt (a ++ b))) := by
 have hlim := aY
 have h1 : decide ((a.length + b.length) * 16 ≤ lim) = true := decide_eq_true (by omega)
 unfold FT
 rw [au (LQ ha), h1]
 rfl
def xu (a b : List Txt) : Nat := a.length + (b.filter fun x => !a.contains x).length
theorem au4 {N : Nat} (hN : lim < N) {a b : List Txt} (ha : a.length ≤ 1048576) (hb : b.length ≤ 1048576) : aaZ N a b = some (xu a b : Int) := by
 have hlim := aY
 unfold aaZ anr
 have := iT b (fun (g : Int → Int → Option Int) i (st : Int) => g st (i : Int)) (fun _ _ => none) (Ef N a b) (fun _ st x => .inl (bif a.contains x then st else st + 1)) (fun st => some st) (fun i st => 0 ≤ st ∧ st ≤ 1048576 + i)
  (fun g i st h hi => ⟨by
   unfold Ef
   simp only [dlt h, dge, gAt h, cond_true, wrS (i := i) (by omega)]
   rw [au (NQ hN (show a.length ≤ lim by omega) _), wr (by omega) (by omega)]
   cases a.contains b[i] <;> rfl, fun st' hs => by
   cases hs
   cases a.contains b[i]
   ·exact ⟨by simp only [cond_false]; omega, by simp only [cond_false]; omega⟩
   ·exact ⟨by simp only [cond_true]; omega, by simp only [cond_true]; omega⟩⟩) (fun g st _ => by
   unfold Ef
   rw [d_]; rfl) N (by omega) (a.length : Int) ⟨by omega, by omega⟩
 refine this.trans ?_
 have : ∀ (l : List Txt) i (st : Int), mP (fun st => some st) (gJ (fun _ (st : Int) x => Sum.inl (bif a.contains x then st else st + 1)) i l st) = some (st + ((l.filter fun x => !a.contains x).length : Int)) := by
  intro l
  induction l with
  | nil => intro i st; simp [gJ, mP]
  | cons x xs ih =>
   intro i st
   simp only [gJ, List.filter_cons]
   cases a.contains x with
   | true => simpa using ih (i + 1) st
   | false =>
    simp only [cond_false, Bool.not_false, if_true, List.length_cons]
    rw [ih]
    congr 1
    omega
 rw [this, xu]
 congr 1
theorem RI (d : Array (List UInt8)) (hs : ∀ i j, i ≤ j → j < d.size → d[i]! ≤ d[j]!) : ∀ m, m ≤ d.size → (Lib.compactUpTo d m).Nodup ∧ ∀ x, x ∈ Lib.compactUpTo d m ↔ ∃ j, j < m ∧ d[j]! = x
 | 0, _ => by simp [Lib.compactUpTo]
 | m + 1, hm => by
  obtain ⟨h1, h2⟩ := RI d hs m (by omega)
  rw [Lib.compactUpTo_succ]
  cases hk : Lib.keeps d m with
  | true =>
   simp only [if_true]
   have hk' : m = 0 ∨ d[m]! ≠ d[m - 1]! := by simpa [Lib.keeps] using hk
   have hn : d[m]! ∉ Lib.compactUpTo d m := by
    intro hmem
    obtain ⟨j, hj, e⟩ := (h2 _).1 hmem
    rcases hk' with h0 | hne
    ·omega
    ·refine hne (List.le_antisymm ?_ (hs (m - 1) m (by omega) (by omega)))
     rw [← e]
     exact hs j (m - 1) (by omega) (by omega)
   refine ⟨List.nodup_append.2 ⟨h1, by simp, fun x hx y hy => ?_⟩, fun x => ?_⟩
   ·simp at hy
    subst hy
    rintro rfl
    exact hn hx
   ·rw [List.mem_append, h2, List.mem_singleton]
    constructor
    ·rintro (⟨j, hj, e⟩ | rfl)
     ·exact ⟨j, by omega, e⟩
     ·exact ⟨m, by omega, rfl⟩
    ·rintro ⟨j, hj, e⟩
     by_cases hjm : j = m
     ·subst hjm; exact .inr e.symm
     ·exact .inl ⟨j, by omega, e⟩
  | false =>
   have hk' : ¬ (m = 0 ∨ d[m]! ≠ d[m - 1]!) := by simpa [Lib.keeps] using hk
   have hm0 : m ≠ 0 := fun h => hk' (.inl h)
   have he : d[m]! = d[m - 1]! := by
    by_cases h : d[m]! = d[m - 1]!
    ·exact h
    ·exact absurd (.inr h) hk'
   simp only [Bool.false_eq_true, if_false, List.append_nil]
   refine ⟨h1, fun x => ?_⟩
   rw [h2]
   constructor
   ·rintro ⟨j, hj, e⟩
    exact ⟨j, by omega, e⟩
   ·rintro ⟨j, hj, e⟩
    by_cases hjm : j = m
    ·subst hjm
     exact ⟨j - 1, by omega, by rw [← he]; exact e⟩
    ·exact ⟨j, by omega, e⟩
theorem Ut (xs : List (List UInt8)) : (srt xs).Pairwise fun a b => a ≤ b := by
 have := List.pairwise_mergeSort (le := fun (x y : List UInt8) => decide (x ≤ y)) (fun a b c h1 h2 => by simpa using List.le_trans (by simpa using h1) (by simpa using h2)) (fun a b => by simpa using List.le_total a b) xs
 exact this.imp fun h => by simpa using h
theorem Si (xs : List (List UInt8)) : (kz (srt xs)).Nodup ∧ ∀ x, x ∈ kz (srt xs) ↔ x ∈ xs := by
 have hs := Ut xs
 obtain ⟨h1, h2⟩ := RI (srt xs).toArray (fun i j hij hj => by
  have hj' : j < (srt xs).length := by simpa using hj
  have hi' : i < (srt xs).length := by omega
  rw [getElem!_pos _ i (by simpa using hi'), getElem!_pos _ j hj]
  simp only [List.getElem_toArray]
  rcases Nat.lt_or_ge i j with h | h
  ·exact List.pairwise_iff_getElem.1 hs i j hi' hj' h
  ·have : i = j := by omega
   subst this
   exact List.le_refl _) (srt xs).length (by simp)
 refine ⟨h1, fun x => ?_⟩
 have h3 : x ∈ kz (srt xs) ↔ ∃ j, j < (srt xs).length ∧ (srt xs).toArray[j]! = x := h2 x
 rw [h3, ← agO (xs := xs), List.mem_iff_getElem]
 constructor
 ·rintro ⟨j, hj, e⟩
  refine ⟨j, hj, ?_⟩
  rw [getElem!_pos _ j (by simpa using hj)] at e
  simpa using e
 ·rintro ⟨j, hj, e⟩
  refine ⟨j, hj, ?_⟩
  rw [getElem!_pos _ j (by simpa using hj)]
  simpa using e
theorem aaF {a b : List Txt} (ha : a.Nodup) (hb : b.Nodup) : (kz (srt (a ++ b))).length = xu a b := by
 obtain ⟨h1, h2⟩ := Si (a ++ b)
 have h3 : (a ++ b.filter fun x => !a.contains x).Nodup := by
  refine List.nodup_append.2 ⟨ha, hb.filter _, fun x hx y hy => ?_⟩
  rintro rfl
  have := (List.mem_filter.1 hy).2
  simp [hx] at this
 have := (List.perm_ext_iff_of_nodup h1 h3).2 fun x => by
  rw [h2, List.mem_append, List.mem_append, List.mem_filter]
  constructor
  ·rintro (h | h)
   ·exact .inl h
   ·by_cases hx : x ∈ a
    ·exact .inl hx
    ·exact .inr ⟨h, by simp [hx]⟩
  ·rintro (h | ⟨h, _⟩)
   ·exact .inl h
   ·exact .inr h
 rw [this.length_eq, List.length_append, xu]
theorem ku : ∀ {a b c : Txt}, Op.bytesLess a b = true → Op.bytesLess b c = true → Op.bytesLess a c = true
 | [], [], c, h, _ => by cases h
 | [], _ :: _, [], _, h => by cases h
 | [], _ :: _, _ :: _, _, _ => rfl
 | _ :: _, [], _, h, _ => by cases h
 | _ :: _, _ :: _, [], _, h => by cases h
 | x :: a, y :: b, z :: c, h, h' => by
  simp only [Op.bytesLess, Bool.or_eq_true, Bool.and_eq_true, decide_eq_true_eq, beq_iff_eq] at h h' ⊢
  rcases h with h | ⟨rfl, h⟩
  ·rcases h' with h' | ⟨rfl, h'⟩
   ·exact .inl (UInt8.lt_trans h h')
   ·exact .inl h
  ·rcases h' with h' | ⟨rfl, h'⟩
   ·exact .inl h'
   ·exact .inr ⟨rfl, ku h h'⟩
theorem AU {l : List Txt} {n : Int} (h : fM l n = true) : l.Nodup := by
 unfold fM at h
 simp only [Bool.and_eq_true] at h
 have h2 := gu.1 h.2
 have h3 : ∀ j, 0 < j → (hj : j < l.length) → Op.bytesLess (l[j - 1]'(by omega)) l[j] = true := by
  intro j h0 hj
  have := h2 j l[j] (by simp [hj])
  simp only [Nat.zero_add, Bool.and_eq_true, UO, Bool.or_eq_true, beq_iff_eq] at this
  rcases this.2 with h | h
  ·omega
  ·rwa [List.getD_eq_getElem?_getD, List.getElem?_eq_getElem (by omega)] at h
 have h4 : ∀ (k i : Nat) (hj : i + k + 1 < l.length), Op.bytesLess (l[i]'(by omega)) l[i + k + 1] = true := by
  intro k
  induction k with
  | zero => intro i hj; exact h3 (i + 1) (by omega) hj
  | succ k ih =>
   intro i hj
   exact ku (ih i (by omega)) (h3 (i + (k + 1) + 1) (by omega) hj)
 refine List.pairwise_iff_getElem.2 fun i j hi hj hij e => ?_
 have := h4 (j - i - 1) i (by omega)
 simp only [show i + (j - i - 1) + 1 = j by omega] at this
 rw [e, iK] at this
 cases this
end Go.MC
